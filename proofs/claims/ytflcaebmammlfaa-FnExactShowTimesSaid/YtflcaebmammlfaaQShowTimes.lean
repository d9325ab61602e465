/- The program's ShowTimes and the reference's tell the same. Conditions: none. -/
import Derived.Test.YtflcaebmammlfaaFShowTimes
namespace Go.Proofs.Ytflcaebmammlfaa.M
open Go Go.MG
set_option linter.unusedVariables false
set_option linter.unusedSimpArgs false
theorem wid {n : Int} (h1 : -9223372036854775808 ≤ n) (h2 : n ≤ 9223372036854775807) : IntKind.i64.wrap n = n := by
  rw [IntKind.wrap_i64]; omega
theorem atN {α : Type} {xs : List α} {i : Nat} {b : α} (h : xs[i]? = some b) : at? xs (i : Int) = some b := by
  simp [at?, h]
theorem atLt {α : Type} {xs : List α} {i : Nat} (h : i < xs.length) : ∃ b, xs[i]? = some b := ⟨xs[i], List.getElem?_eq_getElem h⟩
/-- A loop over a list, by an invariant. -/
theorem loopInv {α S R : Type} {xs : List α} {L : Nat → S → Int → Option R} {I : Nat → S → Prop} {Q : R → Prop} {n0 : Nat}
    (h : ∀ k s (i : Nat) b, n0 ≤ k → xs[i]? = some b → i < xs.length → I i s → (∃ s', L (k + 1) s (i : Int) = L k s' ((i + 1 : Nat) : Int) ∧ I (i + 1) s') ∨ ∃ r, L (k + 1) s (i : Int) = some r ∧ Q r)
    (he : ∀ k s, n0 ≤ k → I xs.length s → ∃ r, L (k + 1) s (xs.length : Int) = some r ∧ Q r) :
    ∀ (m i k : Nat) (s : S), i + m = xs.length → n0 + m + 1 ≤ k → I i s → ∃ r, L k s (i : Int) = some r ∧ Q r := by
  intro m
  induction m with
  | zero =>
    intro i k s hi hk hI
    obtain ⟨k, rfl⟩ : ∃ j, k = j + 1 := ⟨k - 1, by omega⟩
    have : i = xs.length := by omega
    subst this
    exact he k s (by omega) hI
  | succ m ih =>
    intro i k s hi hk hI
    obtain ⟨k, rfl⟩ : ∃ j, k = j + 1 := ⟨k - 1, by omega⟩
    obtain ⟨b, hb⟩ := atLt (xs := xs) (i := i) (by omega)
    rcases h k s i b (by omega) hb (by omega) hI with ⟨s', h1, h2⟩ | h1
    · rw [h1]
      exact ih (i + 1) k s' (by omega) (by omega) h2
    · exact h1
theorem loop0 {α S R : Type} {xs : List α} {L : Nat → S → Int → Option R} {I : Nat → S → Prop} {Q : R → Prop} (n0 : Nat) {k : Nat} {s : S}
    (hk : n0 + xs.length + 1 ≤ k) (h0 : I 0 s)
    (h : ∀ k s (i : Nat) b, n0 ≤ k → xs[i]? = some b → i < xs.length → I i s → (∃ s', L (k + 1) s (i : Int) = L k s' ((i + 1 : Nat) : Int) ∧ I (i + 1) s') ∨ ∃ r, L (k + 1) s (i : Int) = some r ∧ Q r)
    (he : ∀ k s, n0 ≤ k → I xs.length s → ∃ r, L (k + 1) s (xs.length : Int) = some r ∧ Q r) : ∃ r, L k s 0 = some r ∧ Q r :=
  loopInv h he xs.length 0 k s (by omega) (by omega) h0
theorem wid1 {i : Nat} (h : i ≤ 4611686018427387904) : IntKind.i64.wrap ((i : Int) + 1) = ((i + 1 : Nat) : Int) := by
  rw [wid (by omega) (by omega)]; omega
theorem ltD {i n : Nat} (h : i < n) : decide ((i : Int) < (n : Int)) = true := by simp; omega
theorem ltD0 {n : Nat} : decide ((n : Int) < (n : Int)) = false := by simp
theorem take_succ_get {α : Type} {xs : List α} {i : Nat} {b : α} (h : xs[i]? = some b) : xs.take (i + 1) = xs.take i ++ [b] := by
  rw [List.take_add_one, h]; rfl
/-- What a copy has become after some rounds. -/
theorem set_copy {α : Type} {xs : List α} {z b : α} {i : Nat} (h : xs[i]? = some b) : (xs.take i ++ List.replicate (xs.length - i) z).set i b = xs.take (i + 1) ++ List.replicate (xs.length - (i + 1)) z := by
  have hi := (List.getElem?_eq_some_iff.1 h).1
  rw [take_succ_get h, List.set_append_right _ _ (by simp; omega)]
  have e : xs.length - i = (xs.length - (i + 1)) + 1 := by omega
  rw [e, List.replicate_succ]
  have e2 : i - (xs.take i).length = 0 := by simp; omega
  rw [e2]
  simp
theorem get_copy {α : Type} {xs : List α} {z : α} {i : Nat} (h : i < xs.length) : (xs.take i ++ List.replicate (xs.length - i) z)[i]? = some z := by
  rw [List.getElem?_append_right (by simp; omega)]
  have : i - (xs.take i).length = 0 := by simp; omega
  rw [this, List.getElem?_replicate]
  simp; omega
def isIn (x a b : Int) : Bool := decide (a ≤ x ∧ x ≤ b)
theorem sIn (k : Nat) (x a b : Int) : Fspec_l1In k x a b = some (isIn x a b) := by
  unfold Fspec_l1In isIn
  simp only [Bool.cond_decide]
  split
  all_goals
    refine congrArg some (Bool.eq_iff_iff.mpr ?_)
    simp only [decide_eq_true_eq, Bool.false_eq_true, false_iff]
    omega
theorem iIn (k : Nat) (x a b : Int) : Fimpl_within k x a b = some (isIn x a b) := sIn k x a b
def tOk (a : Timpl_Times) : Bool := decide (0 ≤ a.Auth ∧ a.Auth ≤ a.Start ∧ a.Start ≤ a.End ∧ a.End ≤ a.Renew ∧ a.Renew ≤ 100000)
theorem sTimesOk (k : Nat) (a : Timpl_Times) : Fspec_TimesOk k a = some (tOk a) := by
  unfold Fspec_TimesOk tOk
  simp only [Bool.cond_decide]
  repeat' split
  all_goals
    refine congrArg some (Bool.eq_iff_iff.mpr ?_)
    simp only [decide_eq_true_eq, Bool.false_eq_true, false_iff]
    omega
theorem iTimesOk (k : Nat) (a : Timpl_Times) : Fimpl_TimesOk k a = some (tOk a) := sTimesOk k a
theorem bvNat (n : Nat) (h : n < 18446744073709551616) : (BitVec.ofInt 64 (n : Int)).toNat = n := by
  rw [BitVec.ofInt_natCast, BitVec.toNat_ofNat]; exact Nat.mod_eq_of_lt (by omega)
theorem and127 (n : Nat) (h : n ≤ 100000) : Go.bits .and .i64 (n : Int) 127 = ((n % 128 : Nat) : Int) := by
  show IntKind.i64.wrap ((BitVec.ofInt 64 (n : Int) &&& BitVec.ofInt 64 ((127 : Nat) : Int)).toNat : Int) = _
  rw [BitVec.toNat_and, bvNat n (by omega), bvNat 127 (by omega), Nat.and_two_pow_sub_one_eq_mod n 7, wid (by omega) (by omega)]
theorem orTable : ((List.range 128).all fun m => Go.bits .or .i64 (m : Int) 128 == ((128 + m : Nat) : Int)) = true := by decide +kernel
theorem or128 (m : Nat) (h : m < 128) : Go.bits .or .i64 (m : Int) 128 = ((128 + m : Nat) : Int) := by
  have := orTable
  rw [List.all_eq_true] at this
  exact eq_of_beq (this m (List.mem_range.2 h))
theorem lowI (n : Nat) (h : n ≤ 100000) : Go.bits .or .i64 (Go.bits .and .i64 (n : Int) 127) 128 = ((128 + n % 128 : Nat) : Int) := by
  rw [and127 n h, or128 _ (Nat.mod_lt _ (by omega))]
theorem lowS (n : Nat) (h : n ≤ 100000) : IntKind.i64.wrap (128 + Int.tmod (n : Int) 128) = ((128 + n % 128 : Nat) : Int) := by
  rw [show Int.tmod (n : Int) 128 = ((n % 128 : Nat) : Int) from rfl, wid (by omega) (by omega)]; omega
theorem highI (n : Nat) : shrI .i64 (n : Int) 7 = ((n / 128 : Nat) : Int) := by
  show Int.fdiv (n : Int) 128 = _
  rw [Int.fdiv_eq_ediv_of_nonneg _ (by omega)]; omega
theorem highS (n : Nat) (h : n ≤ 100000) : IntKind.i64.wrap (Int.tdiv (n : Int) 128) = ((n / 128 : Nat) : Int) := by
  rw [show Int.tdiv (n : Int) 128 = ((n / 128 : Nat) : Int) from rfl, wid (by omega) (by omega)]
inductive Few : List UInt8 → Prop
  | one (x) : Few [x]
  | two (x y) : Few [x, y]
  | three (x y z) : Few [x, y, z]
theorem varT (n : Nat) (h : n ≤ 100000) : ∃ v, Few v ∧ ∀ k, Fspec_Var (k + 4) (n : Int) = some v ∧ Fimpl_Var (k + 4) (n : Int) = some v := by
  have hin : isIn (n : Int) 0 562949953421311 = true := decide_eq_true (by omega)
  by_cases h1 : n < 128
  · refine ⟨_, .one (ofI (n : Int)), fun k => ?_⟩
    unfold Fspec_Var Fimpl_Var
    simp only [sIn, iIn, hin, Option.bind_some, Bool.not_true, cond_false, Fspec_Var.l2, Fimpl_Var.l2]
    rw [decide_eq_false (p := (n : Int) ≥ 128) (by omega), decide_eq_false (p := (n : Int) > 127) (by omega)]
    exact ⟨rfl, rfl⟩
  by_cases h2 : n < 16384
  · refine ⟨_, .two (ofI ((128 + n % 128 : Nat) : Int)) (ofI ((n / 128 : Nat) : Int)), fun k => ?_⟩
    unfold Fspec_Var Fimpl_Var
    simp only [sIn, iIn, hin, Option.bind_some, Bool.not_true, cond_false, Fspec_Var.l2, Fimpl_Var.l2, lowI n h, lowS n h, highI n, highS n h]
    rw [decide_eq_true (p := (n : Int) ≥ 128) (by omega), decide_eq_true (p := (n : Int) > 127) (by omega), decide_eq_false (p := ((n / 128 : Nat) : Int) ≥ 128) (by omega), decide_eq_false (p := ((n / 128 : Nat) : Int) > 127) (by omega)]
    exact ⟨rfl, rfl⟩
  · have hd : n / 128 ≤ 100000 := by omega
    refine ⟨_, .three (ofI ((128 + n % 128 : Nat) : Int)) (ofI ((128 + n / 128 % 128 : Nat) : Int)) (ofI ((n / 128 / 128 : Nat) : Int)), fun k => ?_⟩
    unfold Fspec_Var Fimpl_Var
    simp only [sIn, iIn, hin, Option.bind_some, Bool.not_true, cond_false, Fspec_Var.l2, Fimpl_Var.l2, lowI n h, lowS n h, highI, highS n h, lowI _ hd, lowS _ hd, highS _ hd]
    rw [decide_eq_true (p := (n : Int) ≥ 128) (by omega), decide_eq_true (p := (n : Int) > 127) (by omega), decide_eq_true (p := ((n / 128 : Nat) : Int) ≥ 128) (by omega), decide_eq_true (p := ((n / 128 : Nat) : Int) > 127) (by omega), decide_eq_false (p := ((n / 128 / 128 : Nat) : Int) ≥ 128) (by omega), decide_eq_false (p := ((n / 128 / 128 : Nat) : Int) > 127) (by omega)]
    exact ⟨rfl, rfl⟩
def atom (v : List UInt8) : List UInt8 := 97 :: UInt8.ofNat v.length :: v
theorem atomT {v : List UInt8} (h : Few v) (k : Nat) : Fspec_Atom (k + 20) v = some (atom v) ∧ Fimpl_Atom (k + 20) v = some (atom v) := by
  cases h <;> exact ⟨by kernel_rfl, by kernel_rfl⟩
theorem numT (n : Nat) (h : n ≤ 100000) : ∃ v, Few v ∧ ∀ k, Fspec_Num (k + 20) (n : Int) = some (atom v) ∧ Fimpl_Num (k + 20) (n : Int) = some (atom v) := by
  obtain ⟨v, hv, hk⟩ := varT n h
  refine ⟨v, hv, fun k => ?_⟩
  have hne : (v == []) = false := by cases hv <;> rfl
  unfold Fspec_Num Fimpl_Num
  rw [(hk (k + 16)).1, (hk (k + 16)).2]
  simp only [Option.bind_some, hne, cond_false, (atomT hv k).1, (atomT hv k).2, and_self]
theorem stepS {k : Nat} {ns : List Int} {out : List (List UInt8)} {i : Nat} {n : Int} {v : List UInt8} (hn : ns[i]? = some n) (hi : i ≤ 12) (ho : out.length ≤ 12) (h : Fspec_Num k n = some (atom v)) : Fspec_Nums.l3 (k + 1) ns out (i : Int) = Fspec_Nums.l3 k ns (out ++ [atom v]) ((i + 1 : Nat) : Int) := by
  simp only [Fspec_Nums.l3]
  rw [ltD (List.getElem?_eq_some_iff.1 hn).1, decide_eq_true (p := (i : Int) ≤ 12) (by omega), atN hn, wid1 (by omega)]
  simp only [cond_true, Option.bind_some, h]
  rw [show (atom v == []) = false from rfl, decide_eq_true (by simp; omega)]
  rfl
theorem stepI {k : Nat} {ns : List Int} {out : List (List UInt8)} {i : Nat} {n : Int} {v : List UInt8} (hn : ns[i]? = some n) (hi : i ≤ 12) (ho : out.length ≤ 12) (h : Fimpl_Num k n = some (atom v)) : Fimpl_Nums.l2 (k + 1) out ns (ns.length : Int) (i : Int) = Fimpl_Nums.l2 k (out ++ [atom v]) ns (ns.length : Int) ((i + 1 : Nat) : Int) := by
  simp only [Fimpl_Nums.l2]
  rw [ltD (List.getElem?_eq_some_iff.1 hn).1, atN hn, wid1 (by omega)]
  simp only [cond_true, Option.bind_some, h]
  rw [show (atom v == []) = false from rfl, decide_eq_true (by simp; omega)]
  rfl
theorem listT {v1 v2 v3 v4 : List UInt8} (h1 : Few v1) (h2 : Few v2) (h3 : Few v3) (h4 : Few v4) (k : Nat) : Fspec_List (k + 20) [atom v1, atom v2, atom v3, atom v4] = some (108 :: 4 :: (atom v1 ++ atom v2 ++ atom v3 ++ atom v4)) ∧ Fimpl_List (k + 20) [atom v1, atom v2, atom v3, atom v4] = some (108 :: 4 :: (atom v1 ++ atom v2 ++ atom v3 ++ atom v4)) := by
  cases h1 <;> cases h2 <;> cases h3 <;> cases h4 <;> exact ⟨by kernel_rfl, by kernel_rfl⟩
theorem nums4 (n1 n2 n3 n4 : Nat) (h1 : n1 ≤ 100000) (h2 : n2 ≤ 100000) (h3 : n3 ≤ 100000) (h4 : n4 ≤ 100000) : ∃ t, Fspec_Nums 25 [(n1 : Int), n2, n3, n4] = some t ∧ Fimpl_Nums 25 [(n1 : Int), n2, n3, n4] = some t := by
  obtain ⟨v1, w1, e1⟩ := numT n1 h1
  obtain ⟨v2, w2, e2⟩ := numT n2 h2
  obtain ⟨v3, w3, e3⟩ := numT n3 h3
  obtain ⟨v4, w4, e4⟩ := numT n4 h4
  have hL := listT w1 w2 w3 w4 0
  generalize 108 :: 4 :: (atom v1 ++ atom v2 ++ atom v3 ++ atom v4) = t at hL
  refine ⟨t, ?_, ?_⟩
  · unfold Fspec_Nums
    rw [show (0 : Int) = ((0 : Nat) : Int) from rfl]
    rw [stepS (k := 24) (i := 0) (n := n1) rfl (by omega) (by simp) (e1 4).1]
    rw [stepS (k := 23) (i := 1) (n := n2) rfl (by omega) (by simp) (e2 3).1]
    rw [stepS (k := 22) (i := 2) (n := n3) rfl (by omega) (by simp) (e3 2).1]
    rw [stepS (k := 21) (i := 3) (n := n4) rfl (by omega) (by simp) (e4 1).1]
    simp only [Fspec_Nums.l3]
    rw [decide_eq_false (by simp)]
    simp only [cond_false, Fspec_Nums.j2]
    show (Fspec_List (0 + 20) [atom v1, atom v2, atom v3, atom v4]).bind _ = _
    rw [hL.1]; rfl
  · unfold Fimpl_Nums
    rw [show (0 : Int) = ((0 : Nat) : Int) from rfl]
    rw [stepI (k := 24) (i := 0) (n := n1) rfl (by omega) (by simp) (e1 4).2]
    rw [stepI (k := 23) (i := 1) (n := n2) rfl (by omega) (by simp) (e2 3).2]
    rw [stepI (k := 22) (i := 2) (n := n3) rfl (by omega) (by simp) (e3 2).2]
    rw [stepI (k := 21) (i := 3) (n := n4) rfl (by omega) (by simp) (e4 1).2]
    simp only [Fimpl_Nums.l2]
    rw [decide_eq_false (by simp)]
    simp only [cond_false]
    show (Fimpl_List (0 + 20) [atom v1, atom v2, atom v3, atom v4]).bind _ = _
    rw [hL.2]; rfl
theorem lawExactShowTimes (a : Tlaws_Times) (w : wfTlaws_Times a) : ∃ k, Flaws_FnExactShowTimes k a = some true := by
  refine ⟨25, ?_⟩
  simp only [Flaws_FnExactShowTimes, Flaws_toTimes, Option.bind_some, Fspec_ShowTimes, Fimpl_ShowTimes, sTimesOk, iTimesOk]
  cases ht : tOk ⟨a.Auth, a.Start, a.End, a.Renew⟩
  · rfl
  · simp only [tOk, decide_eq_true_eq] at ht
    obtain ⟨n1, h1⟩ : ∃ n : Nat, a.Auth = n := ⟨a.Auth.toNat, by omega⟩
    obtain ⟨n2, h2⟩ : ∃ n : Nat, a.Start = n := ⟨a.Start.toNat, by omega⟩
    obtain ⟨n3, h3⟩ : ∃ n : Nat, a.End = n := ⟨a.End.toNat, by omega⟩
    obtain ⟨n4, h4⟩ : ∃ n : Nat, a.Renew = n := ⟨a.Renew.toNat, by omega⟩
    obtain ⟨t, t1, t2⟩ := nums4 n1 n2 n3 n4 (by omega) (by omega) (by omega) (by omega)
    rw [h1, h2, h3, h4]
    simp only [Bool.not_true, cond_false, t1, t2, Option.bind_some, bne_self_eq_false]
end Go.Proofs.Ytflcaebmammlfaa.M
