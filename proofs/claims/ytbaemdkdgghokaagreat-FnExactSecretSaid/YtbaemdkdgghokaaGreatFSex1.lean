import Derived.Test.YtbaemdkdgghokaaGreatFSex0
import Derived.Test.YtbaemdkdgghokaaGreatProg
namespace Go.Proofs.YtbaemdkdgghokaaGreat.M
open Go Go.MG Tryz
set_option linter.unusedVariables false
set_option linter.unusedSimpArgs false
set_option maxHeartbeats 8000000
set_option maxRecDepth 100000
/-! ### S_l3Close -/
def S_l3Close.j683 (cl682 : (List (List UInt8)) → (List Int) → Int → Int → Int → (List (List UInt8)) → Int → Option (List (List UInt8) × List Int)) (k : Nat) (v8851 : List (List UInt8)) (v8852 : List Int) (v8853 v8854 v8855 : Int) (v8856 : List (List UInt8)) (v8857 : Int) : Option (List (List UInt8) × List Int) := cl682 v8851 v8852 v8853 v8854 v8855 v8856 (IntKind.i64.wrap (v8857 + 1))
def S_l3Close.j692 (cl690 : (List (List UInt8)) → (List Int) → Int → Int → Int → Int → Option (List (List UInt8) × List Int)) (k : Nat) (v8958 : List (List UInt8)) (v8959 : List Int) (v8960 v8961 v8962 v8963 : Int) : Option (List (List UInt8) × List Int) := cl690 v8958 v8959 v8960 v8961 v8962 (IntKind.i64.wrap (v8963 + 1))
def S_l3Close.j693 (cl690 : (List (List UInt8)) → (List Int) → Int → Int → Int → Int → Option (List (List UInt8) × List Int)) (k : Nat) (v8968 : List (List UInt8)) (v8969 : List Int) (v8970 v8971 v8972 v8973 : Int) (v8974 : List UInt8) (v8975 : Bool) : Option (List (List UInt8) × List Int) := cond v8975 (cond (decide ((2 * (v8968.length + ([v8974] : List (List UInt8)).length) + 192) * 16 ≤ 281474976710656)) (S_l3Close.j692 cl690 k (v8968 ++ ([v8974] : List (List UInt8))) v8969 v8970 v8971 v8972 v8973) none) (S_l3Close.j692 cl690 k v8968 v8969 v8970 v8971 v8972 v8973)
def S_l3Close.l690 (cl655 : (List (List UInt8)) → (List Int) → Int → Int → Int → Option (List (List UInt8) × List Int)) : Nat → (List (List UInt8)) → (List Int) → Int → Int → Int → Int → Option (List (List UInt8) × List Int)
 | 0, _, _, _, _, _, _ => none
 | k690 + 1, v8938, v8939, v8940, v8941, v8942, v8943 => cond (decide (v8943 < (v8939.length : Int))) ((at? v8938 v8942).bind fun b8964 => (at? v8939 v8943).bind fun b8965 => (S_Open k690 b8964 b8965).bind fun r8966 => cond r8966.2 ((S_l3In k690 v8938 r8966.1).bind fun r8977 => S_l3Close.j693 (S_l3Close.l690 cl655 k690) k690 v8938 v8939 v8940 v8941 v8942 v8943 r8966.1 (!r8977)) (S_l3Close.j693 (S_l3Close.l690 cl655 k690) k690 v8938 v8939 v8940 v8941 v8942 v8943 r8966.1 false)) (cl655 v8938 v8939 v8940 v8941 (IntKind.i64.wrap (v8942 + 1)))
def S_l3Close.l682 (cl655 : (List (List UInt8)) → (List Int) → Int → Int → Int → Option (List (List UInt8) × List Int)) : Nat → (List (List UInt8)) → (List Int) → Int → Int → Int → (List (List UInt8)) → Int → Option (List (List UInt8) × List Int)
 | 0, _, _, _, _, _, _, _ => none
 | k682 + 1, v8840, v8841, v8842, v8843, v8844, v8845, v8846 => cond (decide (v8846 < (v8845.length : Int))) ((at? v8845 v8846).bind fun b8858 => (S_l3In k682 v8840 b8858).bind fun r8859 => cond (!r8859) ((at? v8845 v8846).bind fun b8860 => cond (decide ((2 * (v8840.length + ([b8860] : List (List UInt8)).length) + 192) * 16 ≤ 281474976710656)) (S_l3Close.j683 (S_l3Close.l682 cl655 k682) k682 (v8840 ++ ([b8860] : List (List UInt8))) v8841 v8842 v8843 v8844 v8845 v8846) none) (S_l3Close.j683 (S_l3Close.l682 cl655 k682) k682 v8840 v8841 v8842 v8843 v8844 v8845 v8846)) (S_l3Close.l690 cl655 k682 v8840 v8841 v8842 v8843 v8844 0)
def S_l3Close.j675 (cl655 : (List (List UInt8)) → (List Int) → Int → Int → Int → Option (List (List UInt8) × List Int)) (k : Nat) (v8727 : List (List UInt8)) (v8728 : List Int) (v8729 v8730 v8731 : Int) : Option (List (List UInt8) × List Int) := (at? v8727 v8731).bind fun b8732 => (S_Parts k b8732).bind fun r8733 => S_l3Close.l682 cl655 k v8727 v8728 v8729 v8730 v8731 r8733.1 0
def S_l3Close.j694 (cl463 : (List (List UInt8)) → (List Int) → Option (List (List UInt8) × List Int)) (k : Nat) (v8979 : List (List UInt8)) (v8980 : List Int) (v8981 : Bool) : Option (List (List UInt8) × List Int) := cond v8981 (some (v8979, v8980)) (cl463 v8979 v8980)
def S_l3Close.l655 (cl463 : (List (List UInt8)) → (List Int) → Option (List (List UInt8) × List Int)) : Nat → (List (List UInt8)) → (List Int) → Int → Int → Int → Option (List (List UInt8) × List Int)
 | 0, _, _, _, _, _ => none
 | k655 + 1, v8464, v8465, v8466, v8467, v8468 => cond (decide (v8468 < (v8464.length : Int))) ((at? v8464 v8468).bind fun b8724 => (S_ReadKey k655 b8724).bind fun r8725 => cond r8725.2 ((S_l3Put k655 v8465 r8725.1).bind fun r8978 => S_l3Close.j675 (S_l3Close.l655 cl463 k655) k655 v8464 r8978 v8466 v8467 v8468) (S_l3Close.j675 (S_l3Close.l655 cl463 k655) k655 v8464 v8465 v8466 v8467 v8468)) (cond ((v8464.length : Int) == v8466) (S_l3Close.j694 cl463 k655 v8464 v8465 ((v8465.length : Int) == v8467)) (S_l3Close.j694 cl463 k655 v8464 v8465 false))
def S_l3Close.l463 : Nat → (List (List UInt8)) → (List Int) → Option (List (List UInt8) × List Int)
 | 0, _, _ => none
 | k463 + 1, v5989, v5990 => S_l3Close.l655 (S_l3Close.l463 k463) k463 v5989 v5990 (v5989.length : Int) (v5990.length : Int) 0
def S_l3Close (k : Nat) (a0 : T_Known) : Option (List (List UInt8) × List Int) := cond (decide ((2 * (([] : List (List UInt8)).length + a0.Terms.length) + 192) * 16 ≤ 281474976710656)) (cond (decide ((2 * (([] : List Int).length + a0.Keys.length) + 192) * 8 ≤ 281474976710656)) (S_l3Close.l463 k (([] : List (List UInt8)) ++ a0.Terms) (([] : List Int) ++ a0.Keys)) none) none
theorem ent112 : MG.Enters Tryz.prog 112 := en func112
theorem g112 (k : Nat) (g0 g1 : Bool) (a0 : T_Known) (r : List (List UInt8) × List Int) (H : S_l3Close k a0 = some r) : Gives Tryz.prog 112 [V.agg [Cell.sl g0 (List.map eS a0.Terms), Cell.sl g1 (List.map eI a0.Keys)]] [] [V.one (Cell.ow 1 (List.map eS r.1)), V.one (Cell.sl true (List.map eI r.2))] [] := by
 refine Gives.intro func112 rfl rfl rfl rfl ?_; refine fx fun w0 T S0 ob oh hm => ?_
 have hF := fxe w0 T S0 116 ob oh
 unfold S_l3Close at H; obtain ⟨K, hK⟩ := leK k; refine sr ?_; refine bo 2 ?_; refine gn 2 ?_; refine sr ?_; refine L.buildSlice (e := eS) 3 ([] : List (List UInt8)) underlying34 info9 rfl rfl rfl hF rfl rfl rfl rfl rfl rfl rfl rfl ?_; refine go 2 ?_; obtain ⟨h1, H⟩ := condG H; refine L.append (xs := ([] : List (List UInt8))) (ys := a0.Terms) (e := eS) 4 underlying34 info9 rfl rfl hF rfl rfl rfl rfl rfl rfl rfl rfl (fun _ => rfl) (fun _ _ h1 h2 => by cases h1; cases h2; rfl) ⟨_, underlying34⟩ (of_decide_eq_true h1) rfl rfl ?_; refine gn 1 ?_; refine sr ?_; refine L.buildSlice (e := eI) 5 ([] : List Int) underlying24 info3 rfl rfl rfl hF rfl rfl rfl rfl rfl rfl rfl rfl ?_; refine go 2 ?_; obtain ⟨h2, H⟩ := condG H; refine L.append (xs := ([] : List Int)) (ys := a0.Keys) (e := eI) 6 underlying24 info3 rfl rfl hF rfl rfl rfl rfl rfl rfl rfl rfl (fun _ => rfl) (fun _ _ h1 h2 => by cases h1; cases h2; rfl) ⟨_, underlying24⟩ (of_decide_eq_true h2) rfl rfl ?_; refine gn 1 ?_; refine WpC.block ?_
 refine WpC.loopL (P := Tryz.prog) (fun n σ => ∃ (v5989 : List (List UInt8)) (v5990 : List Int), n ≤ K ∧ S_l3Close.l463 n v5989 v5990 = some r ∧ σ = mkSt [(4, MG.one (Cell.own 0)), (5, MG.one (Cell.sl true (List.map eI v5990)))] [(0, ⟨1, List.map eS v5989⟩)] [] 1) k ⟨_, ⟨(([] : List (List UInt8)) ++ a0.Terms), (([] : List Int) ++ a0.Keys), by omega, H, rfl⟩, (Le.shareAll 6 rfl).trans (lm [(0, 4)] hm)⟩ ?_; clear H
 rintro k463 _ ⟨v5989, v5990, hk463, H, rfl⟩
 cases k463 with
 | zero => cases H
 | succ k463 =>
  rw [S_l3Close.l463] at H
  refine WpC.block (sr ?_); refine mv ?_; refine L.lenR (xs := v5989) (e := eS) underlying34 hF rfl rfl rfl rfl ?_; refine gn 1 ?_; refine sy 1 ?_; refine L.lenR (xs := v5990) (e := eI) underlying24 hF rfl rfl rfl rfl ?_; refine gn 1 ?_; refine WpC.seq (sr ?_); refine gn 1 ?_; refine WpC.block ?_; refine WpC.loopL (P := Tryz.prog) (fun n σ => ∃ (v8464 : List (List UInt8)) (v8465 : List Int) (v8466 v8467 v8468 : Int), n ≤ K ∧ S_l3Close.l655 (S_l3Close.l463 k463) n v8464 v8465 v8466 v8467 v8468 = some r ∧ σ = mkSt [(4, MG.one (Cell.own 0)), (5, MG.one (Cell.sl true (List.map eI v8465))), (6, oI v8466), (7, oI v8467), (8, oI v8468)] [(0, ⟨1, List.map eS v8464⟩)] [] 1) k463 ⟨_, ⟨v5989, v5990, (v5989.length : Int), (v5990.length : Int), 0, by omega, H, rfl⟩, lm [(0, 0)] hm⟩ ?_; clear H
  rintro k655 _ ⟨v8464, v8465, v8466, v8467, v8468, hk655, H, rfl⟩
  cases k655 with
  | zero => cases H
  | succ k655 =>
   rw [S_l3Close.l655] at H
   refine WpC.seq (sr ?_); refine go 2 ?_; refine L.lenR (xs := v8464) (e := eS) underlying34 hF rfl rfl rfl rfl ?_; refine gn 1 ?_; refine cd H (fun hc H => ?_) (fun hc H => ?_)
   ·refine WpC.skip (WpC.seq (WpC.block (sr ?_))); refine go 2 ?_; obtain ⟨b8724, hb8724, H⟩ := bindS H; refine ix underlying34 info9 hb8724 ?_; refine L.loadEp (xs := v8464) (e := eS) shape9 hF rfl rfl rfl rfl (at?_get hb8724).2 rfl rfl ?_; refine cB 1 ent192 (g192 k655  b8724) H fun r8725 H => ?_; refine gn 5 ?_; refine WpC.join (fun σ => ∃ (kj675 : Nat) (v8727 : List (List UInt8)) (v8728 : List Int) (v8729 v8730 v8731 : Int), kj675 ≤ K ∧ S_l3Close.j675 (S_l3Close.l655 (S_l3Close.l463 k463) k655) kj675 v8727 v8728 v8729 v8730 v8731 = some r ∧ σ = mkSt [(4, MG.one (Cell.own 0)), (5, MG.one (Cell.sl true (List.map eI v8728))), (6, oI v8729), (7, oI v8730), (8, oI v8731)] [(0, ⟨1, List.map eS v8727⟩)] [] 1) ?_ ?_
    ·rintro _ ⟨kj675, v8727, v8728, v8729, v8730, v8731, hkj675, H, rfl⟩
     unfold S_l3Close.j675 at H; refine sy 2 ?_; obtain ⟨b8732, hb8732, H⟩ := bindS H; refine ix underlying34 info9 hb8732 ?_; refine L.loadEp (xs := v8727) (e := eS) shape9 hF rfl rfl rfl rfl (at?_get hb8732).2 rfl rfl ?_; refine cB 1 ent193 (g193 kj675  b8732) H fun r8733 H => ?_; refine gn 5 ?_; refine WpC.seq (sr ?_); refine gn 1 ?_; refine WpC.block ?_; refine WpC.loopL (P := Tryz.prog) (fun n σ => ∃ (v8840 : List (List UInt8)) (v8841 : List Int) (v8842 v8843 v8844 : Int) (v8845 : List (List UInt8)) (v8846 : Int), n ≤ K ∧ S_l3Close.l682 (S_l3Close.l655 (S_l3Close.l463 k463) k655) n v8840 v8841 v8842 v8843 v8844 v8845 v8846 = some r ∧ σ = mkSt [(4, MG.one (Cell.own 0)), (5, MG.one (Cell.sl true (List.map eI v8841))), (6, oI v8842), (7, oI v8843), (8, oI v8844), (11, MG.one (Cell.own 1)), (13, oI v8846)] [(0, ⟨1, List.map eS v8840⟩), (1, ⟨1, List.map eS v8845⟩)] [] 2) kj675 ⟨_, ⟨v8727, v8728, v8729, v8730, v8731, r8733.1, 0, by omega, H, rfl⟩, lm [(0, 0), (1, 1)] hm⟩ ?_; clear H
     rintro k682 _ ⟨v8840, v8841, v8842, v8843, v8844, v8845, v8846, hk682, H, rfl⟩
     cases k682 with
     | zero => cases H
     | succ k682 =>
      rw [S_l3Close.l682] at H
      refine WpC.seq (sr ?_); refine go 2 ?_; refine L.lenR (xs := v8845) (e := eS) underlying34 hF rfl rfl rfl rfl ?_; refine gn 1 ?_; refine cd H (fun hc H => ?_) (fun hc H => ?_)
      ·refine WpC.skip ?_; refine WpC.join (fun σ => ∃ (kj683 : Nat) (v8851 : List (List UInt8)) (v8852 : List Int) (v8853 v8854 v8855 : Int) (v8856 : List (List UInt8)) (v8857 : Int), kj683 ≤ K ∧ S_l3Close.j683 (S_l3Close.l682 (S_l3Close.l655 (S_l3Close.l463 k463) k655) k682) kj683 v8851 v8852 v8853 v8854 v8855 v8856 v8857 = some r ∧ σ = mkSt [(4, MG.one (Cell.own 0)), (5, MG.one (Cell.sl true (List.map eI v8852))), (6, oI v8853), (7, oI v8854), (8, oI v8855), (11, MG.one (Cell.own 1)), (13, oI v8857)] [(0, ⟨1, List.map eS v8851⟩), (1, ⟨1, List.map eS v8856⟩)] [] 2) ?_ ?_
       ·rintro _ ⟨kj683, v8851, v8852, v8853, v8854, v8855, v8856, v8857, hkj683, H, rfl⟩
        unfold S_l3Close.j683 at H; refine WpC.regionL ?_; refine gn 3 ?_; exact ⟨k682, _, by omega, ⟨v8851, v8852, v8853, v8854, v8855, v8856, (IntKind.i64.wrap (v8857 + 1)), by omega, H, rfl⟩, lm [(0, 0), (1, 1)] hm⟩
       ·refine WpC.block (sr ?_); refine go 3 ?_; obtain ⟨b8858, hb8858, H⟩ := bindS H; refine ix underlying34 info9 hb8858 ?_; refine L.loadEp (xs := v8845) (e := eS) shape9 hF rfl rfl rfl rfl (at?_get hb8858).2 rfl rfl ?_; obtain ⟨r8859, hr8859, H⟩ := bindS H; refine ca [false, false] [0] [] 2 ent194 (g194 k682 false v8840 b8858 r8859 hr8859) ?_; refine gn 1 ?_; refine cd H (fun hc H => ?_) (fun hc H => ?_)
        ·refine WpC.regionL ?_; refine go 3 ?_; obtain ⟨b8860, hb8860, H⟩ := bindS H; refine ix underlying34 info9 hb8860 ?_; refine L.loadEp (xs := v8845) (e := eS) shape9 hF rfl rfl rfl rfl (at?_get hb8860).2 rfl rfl ?_; refine L.buildSlice (e := eS) 3 ([b8860] : List (List UInt8)) underlying34 info9 rfl rfl rfl hF rfl rfl rfl rfl rfl rfl rfl rfl ?_; obtain ⟨h8861, H⟩ := condG H; refine L.append (xs := v8840) (ys := ([b8860] : List (List UInt8))) (e := eS) 4 underlying34 info9 rfl rfl hF rfl rfl rfl rfl rfl rfl rfl rfl (fun _ => rfl) (fun _ _ h1 h2 => by cases h1; cases h2; rfl) ⟨_, underlying34⟩ (of_decide_eq_true h8861) rfl rfl ?_; refine gn 1 ?_; exact ⟨_, ⟨k682, (v8840 ++ ([b8860] : List (List UInt8))), v8841, v8842, v8843, v8844, v8845, v8846, by omega, H, rfl⟩, lm [(0, 4), (1, 1)] hm⟩
        ·refine WpC.skip ?_; exact ⟨_, ⟨k682, v8840, v8841, v8842, v8843, v8844, v8845, v8846, by omega, H, rfl⟩, lm [(0, 0), (1, 1)] hm⟩
      ·refine WpC.exit (sr ?_); refine gn 1 ?_; refine WpC.block ?_; refine WpC.loopL (P := Tryz.prog) (fun n σ => ∃ (v8938 : List (List UInt8)) (v8939 : List Int) (v8940 v8941 v8942 v8943 : Int), n ≤ K ∧ S_l3Close.l690 (S_l3Close.l655 (S_l3Close.l463 k463) k655) n v8938 v8939 v8940 v8941 v8942 v8943 = some r ∧ σ = mkSt [(4, MG.one (Cell.own 0)), (5, MG.one (Cell.sl true (List.map eI v8939))), (6, oI v8940), (7, oI v8941), (8, oI v8942), (14, oI v8943)] [(0, ⟨1, List.map eS v8938⟩)] [] 1) k682 ⟨_, ⟨v8840, v8841, v8842, v8843, v8844, 0, by omega, H, rfl⟩, lm [(0, 0)] hm⟩ ?_; clear H
       rintro k690 _ ⟨v8938, v8939, v8940, v8941, v8942, v8943, hk690, H, rfl⟩
       cases k690 with
       | zero => cases H
       | succ k690 =>
        rw [S_l3Close.l690] at H
        refine WpC.seq (sr ?_); refine go 2 ?_; refine L.lenR (xs := v8939) (e := eI) underlying24 hF rfl rfl rfl rfl ?_; refine gn 1 ?_; refine cd H (fun hc H => ?_) (fun hc H => ?_)
        ·refine WpC.skip ?_; refine WpC.join (fun σ => ∃ (kj692 : Nat) (v8958 : List (List UInt8)) (v8959 : List Int) (v8960 v8961 v8962 v8963 : Int), kj692 ≤ K ∧ S_l3Close.j692 (S_l3Close.l690 (S_l3Close.l655 (S_l3Close.l463 k463) k655) k690) kj692 v8958 v8959 v8960 v8961 v8962 v8963 = some r ∧ σ = mkSt [(4, MG.one (Cell.own 0)), (5, MG.one (Cell.sl true (List.map eI v8959))), (6, oI v8960), (7, oI v8961), (8, oI v8962), (14, oI v8963)] [(0, ⟨1, List.map eS v8958⟩)] [] 1) ?_ ?_
         ·rintro _ ⟨kj692, v8958, v8959, v8960, v8961, v8962, v8963, hkj692, H, rfl⟩
          unfold S_l3Close.j692 at H; refine WpC.regionL ?_; refine gn 3 ?_; exact ⟨k690, _, by omega, ⟨v8958, v8959, v8960, v8961, v8962, (IntKind.i64.wrap (v8963 + 1)), by omega, H, rfl⟩, lm [(0, 0)] hm⟩
         ·refine WpC.block (WpC.seq ?_); obtain ⟨b8964, hb8964, H⟩ := bindS H; obtain ⟨b8965, hb8965, H⟩ := bindS H; obtain ⟨r8966, hr8966, H⟩ := bindS H; refine A.begin mixed rfl rfl ?_; intro W hI hO
          have n255 : W 6 #[true, true, true, true, true, true, true, true, false, false, false, false, false, false] (mkSt [(4, MG.one (Cell.own 0)), (5, MG.one (Cell.sl true (List.map eI v8939))), (6, oI v8940), (7, oI v8941), (8, oI v8942), (14, oI v8943), (85, oS b8964), (89, oI b8965)] [(0, ⟨1, List.map eS v8938⟩)] [] 1) := by
           refine hI _ _ _ ?_; refine A.all [8] (by kernel_rfl) rfl ⟨⟨_, rfl, ?_⟩, trivial⟩; refine c0 1 ent195 (g195 k690  b8964 b8965 r8966 hr8966) (L.nil ?_); refine tM 9 ?_; refine Atk 10 rfl (Ca.extract) (fun Q0 k0 => ex (L.nil k0)) ?_; refine Atk 11 rfl (Ca.extract) (fun Q0 k0 => ex (L.nil k0)) ?_; refine tA 12 ?_; refine tA 13 ?_; refine A.le (τ := mkSt [(4, MG.one (Cell.own 0)), (5, MG.one (Cell.sl true (List.map eI v8939))), (6, oI v8940), (7, oI v8941), (8, oI v8942), (14, oI v8943), (15, oS r8966.1), (16, oL r8966.2)] [(0, ⟨1, List.map eS v8938⟩)] [] 1) (lm [(0, 0)] hm) ?_; refine A.done (by kernel_rfl) ?_; refine WpC.join (fun σ => ∃ (kj693 : Nat) (v8968 : List (List UInt8)) (v8969 : List Int) (v8970 v8971 v8972 v8973 : Int) (v8974 : List UInt8) (v8975 : Bool), kj693 ≤ K ∧ S_l3Close.j693 (S_l3Close.l690 (S_l3Close.l655 (S_l3Close.l463 k463) k655) k690) kj693 v8968 v8969 v8970 v8971 v8972 v8973 v8974 v8975 = some r ∧ σ = mkSt [(4, MG.one (Cell.own 0)), (5, MG.one (Cell.sl true (List.map eI v8969))), (6, oI v8970), (7, oI v8971), (8, oI v8972), (14, oI v8973), (15, oS v8974), (99, oL v8975)] [(0, ⟨1, List.map eS v8968⟩)] [] 1) ?_ ?_
           ·rintro _ ⟨kj693, v8968, v8969, v8970, v8971, v8972, v8973, v8974, v8975, hkj693, H, rfl⟩
            unfold S_l3Close.j693 at H; refine cd H (fun hc H => ?_) (fun hc H => ?_)
            ·refine WpC.regionL ?_; refine go 2 ?_; refine L.buildSlice (e := eS) 1 ([v8974] : List (List UInt8)) underlying34 info9 rfl rfl rfl hF rfl rfl rfl rfl rfl rfl rfl rfl ?_; obtain ⟨h8976, H⟩ := condG H; refine L.append (xs := v8968) (ys := ([v8974] : List (List UInt8))) (e := eS) 2 underlying34 info9 rfl rfl hF rfl rfl rfl rfl rfl rfl rfl rfl (fun _ => rfl) (fun _ _ h1 h2 => by cases h1; cases h2; rfl) ⟨_, underlying34⟩ (of_decide_eq_true h8976) rfl rfl ?_; refine gn 1 ?_; exact ⟨_, ⟨kj693, (v8968 ++ ([v8974] : List (List UInt8))), v8969, v8970, v8971, v8972, v8973, by omega, H, rfl⟩, lm [(0, 2)] hm⟩
            ·refine WpC.skip ?_; exact ⟨_, ⟨kj693, v8968, v8969, v8970, v8971, v8972, v8973, by omega, H, rfl⟩, lm [(0, 0)] hm⟩
           ·refine WpC.regionL ?_; refine go 2 ?_; refine sH H (fun hc H => ?_) (fun hc H => ?_)
            ·refine go 2 ?_; obtain ⟨r8977, hr8977, H⟩ := bindS H; refine ca [false, false] [0] [] 1 ent194 (g194 k690 false v8938 r8966.1 r8977 hr8977) ?_; refine gn 2 ?_; exact ⟨_, ⟨k690, v8938, v8939, v8940, v8941, v8942, v8943, r8966.1, (!r8977), by omega, H, rfl⟩, lm [(0, 0)] hm⟩
            ·refine gn 5 ?_; exact ⟨_, ⟨k690, v8938, v8939, v8940, v8941, v8942, v8943, r8966.1, false, by omega, H, rfl⟩, lm [(0, 0)] hm⟩
          refine hI _ _ _ ?_; refine tM 0 ?_; refine tM 1 ?_; refine Atk 2 rfl (Ca.indexAddr) (fun Q0 k0 => ix underlying34 info9 hb8964 (L.nil k0)) ?_; refine tM 4 ?_; refine tM 5 ?_; refine Atk 6 rfl (Ca.indexAddr) (fun Q0 k0 => ix underlying24 info3 hb8965 (L.nil k0)) ?_; refine A.all [3, 7] (by kernel_rfl) rfl ⟨⟨_, rfl, ?_⟩, ⟨_, rfl, ?_⟩, trivial⟩
          ·refine L.loadEp (xs := v8938) (e := eS) shape9 hF rfl rfl rfl rfl (at?_get hb8964).2 rfl rfl ?_; refine L.nil ?_; refine A.all [7] (by kernel_rfl) rfl ⟨⟨_, rfl, ?_⟩, trivial⟩; refine gn 1 ?_; exact A.on (hO _ _ _ n255) (lm [(0, 0)] hm)
          ·refine gn 1 ?_; refine A.all [3] (by kernel_rfl) rfl ⟨⟨_, rfl, ?_⟩, trivial⟩; refine L.loadEp (xs := v8938) (e := eS) shape9 hF rfl rfl rfl rfl (at?_get hb8964).2 rfl rfl ?_; refine L.nil ?_; exact A.on (hO _ _ _ n255) (lm [(0, 0)] hm)
        ·refine WpC.exit (WpC.regionL ?_); refine gn 3 ?_; exact ⟨k655, _, by omega, ⟨v8938, v8939, v8940, v8941, (IntKind.i64.wrap (v8942 + 1)), by omega, H, rfl⟩, lm [(0, 0)] hm⟩
    ·refine sg 1 ?_; refine cd H (fun hc H => ?_) (fun hc H => ?_)
     ·refine WpC.regionL ?_; refine go 2 ?_; refine cB 3 ent129 (g129 k655  v8465 r8725.1) H fun r8978 H => ?_; refine gn 1 ?_; exact ⟨_, ⟨k655, v8464, r8978, v8466, v8467, v8468, by omega, H, rfl⟩, lm [(0, 0)] hm⟩
     ·refine WpC.skip ?_; exact ⟨_, ⟨k655, v8464, v8465, v8466, v8467, v8468, by omega, H, rfl⟩, lm [(0, 0)] hm⟩
   ·refine WpC.exit ?_; refine WpC.join (fun σ => ∃ (kj694 : Nat) (v8979 : List (List UInt8)) (v8980 : List Int) (v8981 : Bool), kj694 ≤ K ∧ S_l3Close.j694 (S_l3Close.l463 k463) kj694 v8979 v8980 v8981 = some r ∧ σ = mkSt [(4, MG.one (Cell.own 0)), (5, MG.one (Cell.sl true (List.map eI v8980))), (113, oL v8981)] [(0, ⟨1, List.map eS v8979⟩)] [] 1) ?_ ?_
    ·rintro _ ⟨kj694, v8979, v8980, v8981, hkj694, H, rfl⟩
     unfold S_l3Close.j694 at H; refine cd H (fun hc H => ?_) (fun hc H => ?_)
     ·refine sg 4 ?_; cases H; exact WpC.ret rt
     ·refine WpC.skip ?_; exact ⟨k463, _, by omega, ⟨v8979, v8980, by omega, H, rfl⟩, lm [(0, 0)] hm⟩
    ·refine WpC.regionL ?_; refine mv ?_; refine L.lenR (xs := v8464) (e := eS) underlying34 hF rfl rfl rfl rfl ?_; refine go 3 ?_; refine sH H (fun hc H => ?_) (fun hc H => ?_)
     ·refine mv ?_; refine L.lenR (xs := v8465) (e := eI) underlying24 hF rfl rfl rfl rfl ?_; refine gn 3 ?_; exact ⟨_, ⟨k655, v8464, v8465, ((v8465.length : Int) == v8467), by omega, H, rfl⟩, lm [(0, 0)] hm⟩
     ·refine gn 5 ?_; exact ⟨_, ⟨k655, v8464, v8465, false, by omega, H, rfl⟩, lm [(0, 0)] hm⟩
/-! ### S_Find -/
def S_Find.l2 : Nat → (List T_Event) → Int → Int → Option Int
 | 0, _, _, _ => none
 | k2 + 1, v24, v25, v26 => cond (decide (v26 < (v24.length : Int))) ((at? v24 v26).bind fun b28 => cond (b28.Key == v25) (some v26) ((S_Find.l2 k2) v24 v25 (IntKind.i64.wrap (v26 + 1)))) (some (-1))
def S_Find (k : Nat) (a0 : List T_Event) (a1 : Int) : Option Int := S_Find.l2 k a0 a1 0
theorem ent122 : MG.Enters Tryz.prog 122 := en func122
theorem g122 (k : Nat) (g0 : Bool) (a0 : List T_Event) (a1 r : Int) (H : S_Find k a0 a1 = some r) : Gives Tryz.prog 122 [V.one (Cell.sl g0 (List.map eT_Event a0)), V.one (cI a1)] [] [V.one (cI r)] [] := by
 refine Gives.intro func122 rfl rfl rfl rfl ?_; refine fx fun w0 T S0 ob oh hm => ?_
 have hF := fxe w0 T S0 20 ob oh
 unfold S_Find at H; obtain ⟨K, hK⟩ := leK k; refine sg 1 ?_; refine WpC.seq (sr ?_); refine gn 1 ?_; refine WpC.block ?_; refine WpC.loopL (P := Tryz.prog) (fun n σ => ∃ (v24 : List T_Event) (v25 v26 : Int), n ≤ K ∧ S_Find.l2 n v24 v25 v26 = some r ∧ σ = mkSt [(0, MG.one (Cell.sl g0 (List.map eT_Event v24))), (1, oI v25), (5, oI v26)] [] [] 0) k ⟨_, ⟨a0, a1, 0, by omega, H, rfl⟩, lm [] hm⟩ ?_; clear H
 rintro k2 _ ⟨v24, v25, v26, hk2, H, rfl⟩
 cases k2 with
 | zero => cases H
 | succ k2 =>
  rw [S_Find.l2] at H
  refine WpC.seq (sr ?_); refine go 2 ?_; refine L.lenR (xs := v24) (e := eT_Event) underlying40 hF rfl rfl rfl rfl ?_; refine gn 1 ?_; refine cd H (fun hc H => ?_) (fun hc H => ?_)
  ·refine WpC.skip (WpC.seq (WpC.block (sr ?_))); refine go 2 ?_; obtain ⟨b28, hb28, H⟩ := bindS H; refine ix underlying40 info47 hb28 ?_; refine gn 4 ?_; refine cd H (fun hc H => ?_) (fun hc H => ?_)
   ·refine sg 2 ?_; cases H; exact WpC.ret rt
   ·refine WpC.skip (WpC.regionL ?_); refine gn 3 ?_; exact ⟨k2, _, by omega, ⟨v24, v25, (IntKind.i64.wrap (v26 + 1)), by omega, H, rfl⟩, lm [] hm⟩
  ·refine WpC.exit (sr ?_); refine gn 1 ?_; cases H; exact WpC.ret rt
/-! ### S_PrincipalKey -/
def S_PrincipalKey (k : Nat) (a0 : Int) : Option Int := (S_l5Principal k a0).bind fun r2 => cond (!r2) (some 0) (cond (decide (a0 < 3)) (some (IntKind.i64.wrap (1 + a0))) (some (IntKind.i64.wrap ((IntKind.i64.wrap (11 + a0)) - 3))))
theorem ent127 : MG.Enters Tryz.prog 127 := en func127
theorem g127 (k : Nat) (a0 r : Int) (H : S_PrincipalKey k a0 = some r) : Gives Tryz.prog 127 [V.one (cI a0)] [] [V.one (cI r)] [] := by
 refine Gives.intro func127 rfl rfl rfl rfl ?_; refine fx fun w0 T S0 ob oh hm => ?_
 have hF := fxe w0 T S0 13 ob oh
 unfold S_PrincipalKey at H; obtain ⟨K, hK⟩ := leK k; refine sg 1 ?_; refine WpC.seq (sr ?_); refine mv ?_; refine cB 1 ent51 (g51 k  a0) H fun r2 H => ?_; refine gn 1 ?_; refine cd H (fun hc H => ?_) (fun hc H => ?_)
 ·refine sg 1 ?_; cases H; exact WpC.ret rt
 ·refine WpC.skip (WpC.seq (sr ?_)); refine gn 2 ?_; refine cd H (fun hc H => ?_) (fun hc H => ?_)
  ·refine sg 3 ?_; cases H; exact WpC.ret rt
  ·refine WpC.skip (sr ?_); refine gn 4 ?_; cases H; exact WpC.ret rt
/-! ### S_l6Realm -/
def S_l6Realm (k : Nat) (a0 : Int) : Option Bool := cond (decide (a0 ≥ 0)) (some (decide (a0 < 3))) (some false)
theorem ent137 : MG.Enters Tryz.prog 137 := en func137
theorem g137 (k : Nat) (a0 : Int) (r : Bool) (H : S_l6Realm k a0 = some r) : Gives Tryz.prog 137 [V.one (cI a0)] [] [V.one (cL r)] [] := by
 refine Gives.intro func137 rfl rfl rfl rfl ?_; refine fx fun w0 T S0 ob oh hm => ?_
 have hF := fxe w0 T S0 9 ob oh
 unfold S_l6Realm at H; obtain ⟨K, hK⟩ := leK k; refine sg 1 ?_; refine sy 3 ?_; refine sH H (fun hc H => ?_) (fun hc H => ?_)
 ·refine gn 4 ?_; cases H; exact WpC.ret rt
 ·refine gn 4 ?_; cases H; exact WpC.ret rt
/-! ### S_CentreKey -/
def S_CentreKey (k : Nat) (a0 : Int) : Option Int := (S_l6Realm k a0).bind fun r2 => cond (!r2) (some 0) (some (IntKind.i64.wrap (21 + a0)))
theorem ent128 : MG.Enters Tryz.prog 128 := en func128
theorem g128 (k : Nat) (a0 r : Int) (H : S_CentreKey k a0 = some r) : Gives Tryz.prog 128 [V.one (cI a0)] [] [V.one (cI r)] [] := by
 refine Gives.intro func128 rfl rfl rfl rfl ?_; refine fx fun w0 T S0 ob oh hm => ?_
 have hF := fxe w0 T S0 8 ob oh
 unfold S_CentreKey at H; obtain ⟨K, hK⟩ := leK k; refine sg 1 ?_; refine WpC.seq (sr ?_); refine mv ?_; refine cB 1 ent137 (g137 k  a0) H fun r2 H => ?_; refine gn 1 ?_; refine cd H (fun hc H => ?_) (fun hc H => ?_)
 ·refine sg 1 ?_; cases H; exact WpC.ret rt
 ·refine WpC.skip (sr ?_); refine gn 3 ?_; cases H; exact WpC.ret rt
/-! ### S_LinkKey -/
def S_LinkKey (k : Nat) (a0 a1 : Int) : Option Int := (S_l6Realm k a0).bind fun r7 => cond (!r7) (some 0) ((S_l6Realm k a1).bind fun r8 => cond (!r8) (some 0) (some (IntKind.i64.wrap ((IntKind.i64.wrap (31 + (IntKind.i64.wrap (3 * a0)))) + a1))))
theorem ent130 : MG.Enters Tryz.prog 130 := en func130
theorem g130 (k : Nat) (a0 a1 r : Int) (H : S_LinkKey k a0 a1 = some r) : Gives Tryz.prog 130 [V.one (cI a0), V.one (cI a1)] [] [V.one (cI r)] [] := by
 refine Gives.intro func130 rfl rfl rfl rfl ?_; refine fx fun w0 T S0 ob oh hm => ?_
 have hF := fxe w0 T S0 18 ob oh
 unfold S_LinkKey at H; obtain ⟨K, hK⟩ := leK k; refine sg 1 ?_; refine WpC.seq (sr ?_); refine mv ?_; refine cB 2 ent137 (g137 k  a0) H fun r7 H => ?_; refine go 2 ?_; refine sH H (fun hc H => ?_) (fun hc H => ?_)
 ·refine gn 4 ?_; refine cT ?_; refine sg 1 ?_; cases H; exact WpC.ret rt
 ·refine mv ?_; refine cB 3 ent137 (g137 k  a1) H fun r8 H => ?_; refine gn 2 ?_; refine cd H (fun hc H => ?_) (fun hc H => ?_)
  ·refine sg 1 ?_; cases H; exact WpC.ret rt
  ·refine WpC.skip (sr ?_); refine gn 6 ?_; cases H; exact WpC.ret rt
/-! ### S_Roots -/
def S_Roots.j37 (cl32 : (List T_Event) → Int → (List Int) → Int → Option (List Int)) (k : Nat) (v388 : List T_Event) (v389 : List Int) (v390 v391 : Int) (v392 : T_Event) : Option (List Int) := cond (v391 == 0) (some ([] : List Int)) ((S_l3Put k v389 v391).bind fun r393 => cl32 v388 v392.Parent r393 (IntKind.i64.wrap (v390 + 1)))
def S_Roots.j38 (cl32 : (List T_Event) → Int → (List Int) → Int → Option (List Int)) (k : Nat) (v398 : List T_Event) (v399 : List Int) (v400 : Int) (v401 : T_Event) (v402 : Bool) : Option (List Int) := cond v402 ((S_l1In k v401.Service 0 2).bind fun r403 => cond r403 ((S_PrincipalKey k (IntKind.i64.wrap (3 + v401.Service))).bind fun r404 => S_Roots.j37 cl32 k v398 v399 v400 r404 v401) (S_Roots.j37 cl32 k v398 v399 v400 0 v401)) (cond (v401.Kind == 3) ((S_l1In k v401.Service 10 12).bind fun r405 => cond r405 ((S_LinkKey k v401.Realm (IntKind.i64.wrap (v401.Service - 10))).bind fun r406 => S_Roots.j37 cl32 k v398 v399 v400 r406 v401) (S_Roots.j37 cl32 k v398 v399 v400 0 v401)) (S_Roots.j37 cl32 k v398 v399 v400 0 v401))
def S_Roots.l32 : Nat → (List T_Event) → Int → (List Int) → Int → Option (List Int)
 | 0, _, _, _, _ => none
 | k32 + 1, v335, v336, v337, v338 => cond (decide (v338 ≤ (v335.length : Int))) ((S_Find k32 v335 v336).bind fun r373 => cond (decide (r373 < 0)) (some ([] : List Int)) ((at? v335 r373).bind fun b374 => cond (b374.Kind == 1) ((S_PrincipalKey k32 b374.By).bind fun r394 => (S_CentreKey k32 b374.Realm).bind fun r395 => cond (r394 == 0) (some ([] : List Int)) (cond (r395 == 0) (some ([] : List Int)) ((S_l3Put k32 v337 r394).bind fun r396 => (S_l3Put k32 r396 r395).bind fun r397 => some r397))) (cond (b374.Kind == 2) (S_Roots.j38 (S_Roots.l32 k32) k32 v335 v337 v338 b374 (b374.Kind == 2)) (S_Roots.j38 (S_Roots.l32 k32) k32 v335 v337 v338 b374 (b374.Kind == 4))))) (some ([] : List Int))
def S_Roots (k : Nat) (a0 : T_Config) (a1 : List T_Event) (a2 : Int) : Option (List Int) := (S_ConfigOk k a0).bind fun r2 => cond (!r2) (some ([] : List Int)) (S_Roots.l32 k a1 a2 ([] : List Int) 0)
theorem ent45 : MG.Enters Tryz.prog 45 := en func45
theorem g45 (k : Nat) (g0 g1 g2 g3 g4 : Bool) (a0 : T_Config) (a1 : List T_Event) (a2 : Int) (r : List Int) (H : S_Roots k a0 a1 a2 = some r) : Gives Tryz.prog 45 [V.agg (bT_Config g0 g1 g2 g3 a0), V.one (Cell.sl g4 (List.map eT_Event a1)), V.one (cI a2)] [] [V.one (Cell.sl true (List.map eI r))] [] := by
 refine Gives.intro func45 rfl rfl rfl rfl ?_; refine fx fun w0 T S0 ob oh hm => ?_
 have hF := fxe w0 T S0 86 ob oh
 unfold S_Roots at H; obtain ⟨K, hK⟩ := leK k; refine sr ?_; refine bo 7 ?_; refine gn 1 ?_; refine sr ?_; refine L.buildSlice (e := eI) 8 ([] : List Int) underlying24 info3 rfl rfl rfl hF rfl rfl rfl rfl rfl rfl rfl rfl ?_; refine gn 1 ?_; refine WpC.seq (sr ?_); refine lp shape27 ?_; refine cB 9 ent50 (g50 k g0 g1 g2 g3 a0) H fun r2 H => ?_; refine gn 1 ?_; refine cd H (fun hc H => ?_) (fun hc H => ?_)
 ·refine sg 2 ?_; refine WpC.le (Le.shareAll 8 rfl) ?_; cases H; exact WpC.ret rt
 ·refine WpC.skip (WpC.seq (sr ?_)); refine gn 1 ?_; refine WpC.block ?_; refine WpC.loopL (P := Tryz.prog) (fun n σ => ∃ (v335 : List T_Event) (v336 : Int) (v337 : List Int) (v338 : Int), n ≤ K ∧ S_Roots.l32 n v335 v336 v337 v338 = some r ∧ σ = mkSt [(1, MG.one (Cell.sl g4 (List.map eT_Event v335))), (2, oI v336), (7, MG.one (Cell.sl true (List.map eI v337))), (8, oI v338)] [] [] 0) k ⟨_, ⟨a1, a2, ([] : List Int), 0, by omega, H, rfl⟩, (Le.shareAll 8 rfl).trans (lm [] hm)⟩ ?_; clear H
  rintro k32 _ ⟨v335, v336, v337, v338, hk32, H, rfl⟩
  cases k32 with
  | zero => cases H
  | succ k32 =>
   rw [S_Roots.l32] at H
   refine WpC.seq (sr ?_); refine go 2 ?_; refine L.lenR (xs := v335) (e := eT_Event) underlying40 hF rfl rfl rfl rfl ?_; refine gn 1 ?_; refine cd H (fun hc H => ?_) (fun hc H => ?_)
   ·refine WpC.skip (WpC.seq (WpC.block (sr ?_))); refine go 2 ?_; refine cB 0 ent122 (g122 k32 g4 v335 v336) H fun r373 H => ?_; refine gn 1 ?_; refine WpC.seq (sr ?_); refine gn 2 ?_; refine cd H (fun hc H => ?_) (fun hc H => ?_)
    ·refine sr ?_; refine L.buildSlice (e := eI) 1 ([] : List Int) underlying24 info3 rfl rfl rfl hF rfl rfl rfl rfl rfl rfl rfl rfl ?_; refine gn 1 ?_; refine WpC.le (Le.shareAll 1 rfl) ?_; cases H; exact WpC.ret rt
    ·refine WpC.skip (sr ?_); refine go 2 ?_; obtain ⟨b374, hb374, H⟩ := bindS H; refine ix underlying40 info47 hb374 ?_; refine le shape47 ?_; refine alc 1 info47 ?_; refine gn 1 ?_; refine sg 1 ?_; refine WpC.join (fun σ => ∃ (kj37 : Nat) (v388 : List T_Event) (v389 : List Int) (v390 v391 : Int) (v392 : T_Event), kj37 ≤ K ∧ S_Roots.j37 (S_Roots.l32 k32) kj37 v388 v389 v390 v391 v392 = some r ∧ σ = mkSt [(1, MG.one (Cell.sl g4 (List.map eT_Event v388))), (7, MG.one (Cell.sl true (List.map eI v389))), (8, oI v390), (10, oP 0 0), (11, oI v391)] [] [(0, (bT_Event v392))] 1) ?_ ?_
     ·rintro _ ⟨kj37, v388, v389, v390, v391, v392, hkj37, H, rfl⟩
      unfold S_Roots.j37 at H; refine WpC.seq (sr ?_); refine gn 2 ?_; refine cd H (fun hc H => ?_) (fun hc H => ?_)
      ·refine sr ?_; refine L.buildSlice (e := eI) 1 ([] : List Int) underlying24 info3 rfl rfl rfl hF rfl rfl rfl rfl rfl rfl rfl rfl ?_; refine gn 1 ?_; refine WpC.le (Le.shareAll 1 rfl) ?_; cases H; exact WpC.ret rt
      ·refine WpC.skip (sr ?_); refine go 2 ?_; refine cB 1 ent129 (g129 kj37  v389 v391) H fun r393 H => ?_; refine gn 1 ?_; refine WpC.regionL ?_; refine gn 3 ?_; refine WpC.regionL ?_; refine gn 3 ?_; exact ⟨k32, _, by omega, ⟨v388, v392.Parent, r393, (IntKind.i64.wrap (v390 + 1)), by omega, H, rfl⟩, lm [] hm⟩
     ·refine sg 2 ?_; refine WpC.block (sr ?_); refine gn 2 ?_; refine cd H (fun hc H => ?_) (fun hc H => ?_)
      ·refine sy 2 ?_; refine cB 2 ent127 (g127 k32  b374.By) H fun r394 H => ?_; refine gn 1 ?_; refine sy 2 ?_; refine cB 3 ent128 (g128 k32  b374.Realm) H fun r395 H => ?_; refine gn 1 ?_; refine WpC.seq (sr ?_); refine go 3 ?_; refine sH H (fun hc H => ?_) (fun hc H => ?_)
       ·refine gn 3 ?_; refine cT ?_; refine sr ?_; refine L.buildSlice (e := eI) 4 ([] : List Int) underlying24 info3 rfl rfl rfl hF rfl rfl rfl rfl rfl rfl rfl rfl ?_; refine gn 1 ?_; refine WpC.le (Le.shareAll 4 rfl) ?_; cases H; exact WpC.ret rt
       ·refine gn 3 ?_; refine cd H (fun hc H => ?_) (fun hc H => ?_)
        ·refine sr ?_; refine L.buildSlice (e := eI) 4 ([] : List Int) underlying24 info3 rfl rfl rfl hF rfl rfl rfl rfl rfl rfl rfl rfl ?_; refine gn 1 ?_; refine WpC.le (Le.shareAll 4 rfl) ?_; cases H; exact WpC.ret rt
        ·refine WpC.skip (sr ?_); refine go 2 ?_; refine cB 4 ent129 (g129 k32  v337 r394) H fun r396 H => ?_; refine mv ?_; refine cB 5 ent129 (g129 k32  r396 r395) H fun r397 H => ?_; refine gn 1 ?_; cases H; exact WpC.ret rt
      ·refine WpC.join (fun σ => ∃ (kj38 : Nat) (v398 : List T_Event) (v399 : List Int) (v400 : Int) (v401 : T_Event) (v402 : Bool), kj38 ≤ K ∧ S_Roots.j38 (S_Roots.l32 k32) kj38 v398 v399 v400 v401 v402 = some r ∧ σ = mkSt [(1, MG.one (Cell.sl g4 (List.map eT_Event v398))), (7, MG.one (Cell.sl true (List.map eI v399))), (8, oI v400), (10, oP 0 0), (11, oI 0), (35, oI v401.Kind), (56, oL v402)] [] [(0, (bT_Event v401))] 1) ?_ ?_
       ·rintro _ ⟨kj38, v398, v399, v400, v401, v402, hkj38, H, rfl⟩
        unfold S_Roots.j38 at H; refine cd H (fun hc H => ?_) (fun hc H => ?_)
        ·refine sy 2 ?_; refine cB 1 ent53 (g53 kj38  v401.Service 0 2) H fun r403 H => L.nil ?_; refine cd H (fun hc H => ?_) (fun hc H => ?_)
         ·refine WpC.regionL ?_; refine go 3 ?_; refine cB 2 ent127 (g127 kj38  (IntKind.i64.wrap (3 + v401.Service))) H fun r404 H => ?_; refine gn 1 ?_; exact ⟨_, ⟨kj38, v398, v399, v400, r404, v401, by omega, H, rfl⟩, lm [(0, 0)] hm⟩
         ·refine WpC.skip ?_; exact ⟨_, ⟨kj38, v398, v399, v400, 0, v401, by omega, H, rfl⟩, lm [(0, 0)] hm⟩
        ·refine sg 2 ?_; refine cd H (fun hc H => ?_) (fun hc H => ?_)
         ·refine sy 2 ?_; refine cB 1 ent53 (g53 kj38  v401.Service 10 12) H fun r405 H => L.nil ?_; refine cd H (fun hc H => ?_) (fun hc H => ?_)
          ·refine WpC.regionL ?_; refine go 5 ?_; refine cB 2 ent130 (g130 kj38  v401.Realm (IntKind.i64.wrap (v401.Service - 10))) H fun r406 H => ?_; refine gn 1 ?_; exact ⟨_, ⟨kj38, v398, v399, v400, r406, v401, by omega, H, rfl⟩, lm [(0, 0)] hm⟩
          ·refine WpC.skip ?_; exact ⟨_, ⟨kj38, v398, v399, v400, 0, v401, by omega, H, rfl⟩, lm [(0, 0)] hm⟩
         ·refine WpC.skip ?_; exact ⟨_, ⟨kj38, v398, v399, v400, 0, v401, by omega, H, rfl⟩, lm [(0, 0)] hm⟩
       ·refine sg 2 ?_; refine cd H (fun hc H => ?_) (fun hc H => ?_)
        ·refine WpC.skip ?_; exact ⟨_, ⟨k32, v335, v337, v338, b374, (b374.Kind == 2), by omega, H, rfl⟩, lm [(0, 1)] hm⟩
        ·refine WpC.regionL ?_; refine gn 2 ?_; exact ⟨_, ⟨k32, v335, v337, v338, b374, (b374.Kind == 4), by omega, H, rfl⟩, lm [(0, 1)] hm⟩
   ·refine WpC.exit (sr ?_); refine L.buildSlice (e := eI) 0 ([] : List Int) underlying24 info3 rfl rfl rfl hF rfl rfl rfl rfl rfl rfl rfl rfl ?_; refine gn 1 ?_; refine WpC.le (Le.shareAll 0 rfl) ?_; cases H; exact WpC.ret rt
/-! ### S_l11Meets -/
def S_l11Meets.l2 : Nat → (List Int) → (List Int) → Int → Option Bool
 | 0, _, _, _ => none
 | k2 + 1, v34, v35, v36 => cond (decide (v36 < (v34.length : Int))) ((at? v34 v36).bind fun b39 => (S_l3Has k2 v35 b39).bind fun r40 => cond r40 (some true) ((S_l11Meets.l2 k2) v34 v35 (IntKind.i64.wrap (v36 + 1)))) (some false)
def S_l11Meets (k : Nat) (a0 a1 : List Int) : Option Bool := S_l11Meets.l2 k a0 a1 0
theorem ent113 : MG.Enters Tryz.prog 113 := en func113
theorem g113 (k : Nat) (g0 g1 : Bool) (a0 a1 : List Int) (r : Bool) (H : S_l11Meets k a0 a1 = some r) : Gives Tryz.prog 113 [V.one (Cell.sl g0 (List.map eI a0)), V.one (Cell.sl g1 (List.map eI a1))] [] [V.one (cL r)] [] := by
 refine Gives.intro func113 rfl rfl rfl rfl ?_; refine fx fun w0 T S0 ob oh hm => ?_
 have hF := fxe w0 T S0 18 ob oh
 unfold S_l11Meets at H; obtain ⟨K, hK⟩ := leK k; refine sg 1 ?_; refine WpC.seq (sr ?_); refine gn 1 ?_; refine WpC.block ?_; refine WpC.loopL (P := Tryz.prog) (fun n σ => ∃ (v34 v35 : List Int) (v36 : Int), n ≤ K ∧ S_l11Meets.l2 n v34 v35 v36 = some r ∧ σ = mkSt [(0, MG.one (Cell.sl g0 (List.map eI v34))), (1, MG.one (Cell.sl g1 (List.map eI v35))), (5, oI v36)] [] [] 0) k ⟨_, ⟨a0, a1, 0, by omega, H, rfl⟩, lm [] hm⟩ ?_; clear H
 rintro k2 _ ⟨v34, v35, v36, hk2, H, rfl⟩
 cases k2 with
 | zero => cases H
 | succ k2 =>
  rw [S_l11Meets.l2] at H
  refine WpC.seq (sr ?_); refine go 2 ?_; refine L.lenR (xs := v34) (e := eI) underlying24 hF rfl rfl rfl rfl ?_; refine gn 1 ?_; refine cd H (fun hc H => ?_) (fun hc H => ?_)
  ·refine WpC.skip (WpC.seq (WpC.block (sr ?_))); refine go 3 ?_; obtain ⟨b39, hb39, H⟩ := bindS H; refine ix underlying24 info3 hb39 ?_; refine le shape3 ?_; refine cB 0 ent114 (g114 k2 g1 v35 b39) H fun r40 H => L.nil ?_; refine cd H (fun hc H => ?_) (fun hc H => ?_)
   ·refine sg 1 ?_; cases H; exact WpC.ret rt
   ·refine WpC.skip (WpC.regionL ?_); refine gn 3 ?_; exact ⟨k2, _, by omega, ⟨v34, v35, (IntKind.i64.wrap (v36 + 1)), by omega, H, rfl⟩, lm [] hm⟩
  ·refine WpC.exit (sr ?_); refine gn 1 ?_; cases H; exact WpC.ret rt
/-! ### S_Secret -/
def S_Secret.j8 (cl7 : (List Int) → Int → T_World → Option Bool) (k : Nat) (v121 : List Int) (v122 : Int) (v123 : T_World) : Option Bool := cl7 v121 (IntKind.i64.wrap (v122 + 1)) v123
def S_Secret.l7 : Nat → (List Int) → Int → T_World → Option Bool
 | 0, _, _, _ => none
 | k7 + 1, v110, v111, v112 => cond (decide (v111 < (v112.Log.length : Int))) ((at? v112.Log v111).bind fun b124 => (S_Roots k7 v112.Config v112.Log b124.Key).bind fun r125 => cond (decide ((r125.length : Int) > 0)) ((S_l11Meets k7 r125 v112.Leaked).bind fun r129 => cond (!r129) ((at? v112.Log v111).bind fun b130 => (S_l3Has k7 v110 b130.Key).bind fun r131 => cond r131 (some false) (S_Secret.j8 (S_Secret.l7 k7) k7 v110 v111 v112)) (S_Secret.j8 (S_Secret.l7 k7) k7 v110 v111 v112)) (S_Secret.j8 (S_Secret.l7 k7) k7 v110 v111 v112)) (some true)
def S_Secret (k : Nat) (a0 : T_World) : Option Bool := (S_WorldOk k a0).bind fun r2 => cond (!r2) (some false) ((S_l3Close k a0.Known).bind fun r3 => S_Secret.l7 k r3.2 0 a0)
theorem ent36 : MG.Enters Tryz.prog 36 := en func36
theorem g36 (k : Nat) (g0 g1 g2 g3 g4 g5 g6 g7 g8 g9 g10 g11 g12 : Bool) (a0 : T_World) (r : Bool) (H : S_Secret k a0 = some r) : Gives Tryz.prog 36 [V.agg (bT_World g0 g1 g2 g3 g4 g5 g6 g7 g8 g9 g10 g11 g12 a0)] [] [V.one (cL r)] [] := by
 refine Gives.intro func36 rfl rfl rfl rfl ?_; refine fx fun w0 T S0 ob oh hm => ?_
 have hF := fxe w0 T S0 54 ob oh
 unfold S_Secret at H; obtain ⟨K, hK⟩ := leK k; refine sr ?_; refine bo 16 ?_; refine gn 1 ?_; refine WpC.seq (sr ?_); refine lp shape43 ?_; refine cB 17 ent77 (g77 k g0 g1 g2 g3 g4 g5 g6 g7 g8 g9 g10 g11 g12 a0) H fun r2 H => ?_; refine gn 1 ?_; refine cd H (fun hc H => ?_) (fun hc H => ?_)
 ·refine sg 1 ?_; cases H; exact WpC.ret rt
 ·refine WpC.skip (sr ?_); refine go 2 ?_; refine cB 18 ent112 (g112 k g5 g6 a0.Known) H fun r3 H => ?_; refine gn 5 ?_; refine WpC.seq (sr ?_); refine gn 1 ?_; refine WpC.block ?_; refine WpC.loopL (P := Tryz.prog) (fun n σ => ∃ (v110 : List Int) (v111 : Int) (v112 : T_World), n ≤ K ∧ S_Secret.l7 n v110 v111 v112 = some r ∧ σ = mkSt [(1, oP 0 0), (4, MG.one (Cell.sl true (List.map eI v110))), (5, oI v111)] [] [(0, (bT_World g0 g1 g2 g3 g4 g5 g6 g7 g8 g9 g10 g11 g12 v112))] 1) k ⟨_, ⟨r3.2, 0, a0, by omega, H, rfl⟩, lm [(0, 16)] hm⟩ ?_; clear H
  rintro k7 _ ⟨v110, v111, v112, hk7, H, rfl⟩
  cases k7 with
  | zero => cases H
  | succ k7 =>
   rw [S_Secret.l7] at H
   refine WpC.seq (sr ?_); refine go 3 ?_; refine L.lenR (xs := v112.Log) (e := eT_Event) underlying40 hF rfl rfl rfl rfl ?_; refine gn 1 ?_; refine cd H (fun hc H => ?_) (fun hc H => ?_)
   ·refine WpC.skip ?_; refine WpC.join (fun σ => ∃ (kj8 : Nat) (v121 : List Int) (v122 : Int) (v123 : T_World), kj8 ≤ K ∧ S_Secret.j8 (S_Secret.l7 k7) kj8 v121 v122 v123 = some r ∧ σ = mkSt [(1, oP 0 0), (4, MG.one (Cell.sl true (List.map eI v121))), (5, oI v122)] [] [(0, (bT_World g0 g1 g2 g3 g4 g5 g6 g7 g8 g9 g10 g11 g12 v123))] 1) ?_ ?_
    ·rintro _ ⟨kj8, v121, v122, v123, hkj8, H, rfl⟩
     unfold S_Secret.j8 at H; refine WpC.regionL ?_; refine gn 3 ?_; exact ⟨k7, _, by omega, ⟨v121, (IntKind.i64.wrap (v122 + 1)), v123, by omega, H, rfl⟩, lm [(0, 0)] hm⟩
    ·refine WpC.block (WpC.seq ?_); obtain ⟨b124, hb124, H⟩ := bindS H; obtain ⟨r125, hr125, H⟩ := bindS H; refine A.lin (fun β => mkStL [(1, iP 0 0), (4, ai (MG.one (Cell.sl true (List.map eI v110)))), (5, iI v111), (6, al (β 11) (MG.one (Cell.sl true (List.map eI r125)))), (23, lP (β 0) 0 0), (24, al (β 1) (agg (bT_Config g0 g1 g2 g3 v112.Config))), (25, lP (β 2) 0 13), (26, al (β 3) (MG.one (Cell.sl g10 (List.map eT_Event v112.Log)))), (27, lP (β 4) 0 13), (28, al (β 5) (MG.one (Cell.sl g10 (List.map eT_Event v112.Log)))), (29, lI (β 6) v111), (30, al (β 7) (MG.one (Cell.pe g10 (eT_Event b124) 0))), (31, al (β 8) (MG.one (Cell.pe g10 (eT_Event b124) 5))), (32, al (β 9) (MG.one (cI b124.Key))), (33, al (β 10) (MG.one (Cell.sl true (List.map eI r125))))] [] [(0, ai ((bT_World g0 g1 g2 g3 g4 g5 g6 g7 g8 g9 g10 g11 g12 v112)))] 2) [([], [1, 10, 11]), ([0], [10, 11]), ([], [3, 10, 11]), ([2], [10, 11]), ([], [5, 7, 8, 9, 10, 11]), ([4], [7, 8, 9, 10, 11]), ([], [7, 8, 9, 10, 11]), ([4, 5, 6], [8, 9, 10, 11]), ([4, 5, 6, 7], [9, 10, 11]), ([4, 5, 6, 7, 8], [10, 11]), ([0, 1, 2, 3, 4, 5, 6, 7, 8, 9], [11]), ([0, 1, 2, 3, 4, 5, 6, 7, 8, 9, 10], [])] 12 mixed rfl (by kernel_rfl) ?_ ?_ ?_
     ·exact Le.lin [] hm rfl (sa (sa2 (kn4 (kn8 kz)))) kz (ba kz)
     ·repeat' (first | exact trivial | refine ⟨⟨_, rfl, fun β => ?_⟩, ?_⟩ | fail)
      ·refine fa underlying43 info27 ?_; exact lx [] hm
      ·refine lp shape27 ?_; exact lx [] hm
      ·refine fa underlying43 info40 ?_; exact lx [] hm
      ·refine lp shape40 ?_; exact lx [] hm
      ·refine fa underlying43 info40 ?_; exact lx [] hm
      ·refine lp shape40 ?_; exact lx [] hm
      ·refine mv ?_; exact lx [] hm
      ·refine ix underlying40 info47 hb124 ?_; exact lx [] hm
      ·refine fa underlying47 info3 ?_; exact lx [] hm
      ·refine le shape3 ?_; exact lx [] hm
      ·refine c0 2 ent45 (g45 k7 g0 g1 g2 g3 g10 v112.Config v112.Log b124.Key r125 hr125) ?_; exact lx [(1, 2)] hm
      ·refine ag ?_; exact lx [] hm
     refine ⟨_, (lm [(0, 0)] hm : Le _ _ (mkSt [(1, oP 0 0), (4, MG.one (Cell.sl true (List.map eI v110))), (5, oI v111), (6, MG.one (Cell.sl true (List.map eI r125)))] [] [(0, (bT_World g0 g1 g2 g3 g4 g5 g6 g7 g8 g9 g10 g11 g12 v112))] 1)), ?_⟩; refine sy 1 ?_; refine L.lenR (xs := r125) (e := eI) underlying24 hF rfl rfl rfl rfl ?_; refine go 2 ?_; refine sH H (fun hc H => ?_) (fun hc H => ?_)
     ·refine go 3 ?_; refine cB 1 ent113 (g113 k7 true g12 r125 v112.Leaked) H fun r129 H => ?_; refine go 3 ?_; refine sH H (fun hc H => ?_) (fun hc H => ?_)
      ·refine go 4 ?_; obtain ⟨b130, hb130, H⟩ := bindS H; refine ix underlying40 info47 hb130 ?_; refine go 2 ?_; refine cB 2 ent114 (g114 k7 true v110 b130.Key) H fun r131 H => ?_; refine gn 1 ?_; refine cd H (fun hc H => ?_) (fun hc H => ?_)
       ·refine sg 1 ?_; cases H; exact WpC.ret rt
       ·refine WpC.skip ?_; exact ⟨_, ⟨k7, v110, v111, v112, by omega, H, rfl⟩, lm [(0, 0)] hm⟩
      ·refine gn 9 ?_; refine cF ?_; refine WpC.skip ?_; exact ⟨_, ⟨k7, v110, v111, v112, by omega, H, rfl⟩, lm [(0, 0)] hm⟩
     ·refine gn 16 ?_; refine cF ?_; refine WpC.skip ?_; exact ⟨_, ⟨k7, v110, v111, v112, by omega, H, rfl⟩, lm [(0, 0)] hm⟩
   ·refine WpC.exit (sr ?_); refine gn 1 ?_; cases H; exact WpC.ret rt
/-! ### I_within -/
def I_within (k : Nat) (a0 a1 a2 : Int) : Option Bool := cond (decide (a0 ≥ a1)) (some (decide (a0 ≤ a2))) (some false)
theorem ent66 : MG.Enters Tryz.prog 66 := en func66
theorem g66 (k : Nat) (a0 a1 a2 : Int) (r : Bool) (H : I_within k a0 a1 a2 = some r) : Gives Tryz.prog 66 [V.one (cI a0), V.one (cI a1), V.one (cI a2)] [] [V.one (cL r)] [] := by
 refine Gives.intro func66 rfl rfl rfl rfl ?_; refine fx fun w0 T S0 ob oh hm => ?_
 have hF := fxe w0 T S0 15 ob oh
 unfold I_within at H; obtain ⟨K, hK⟩ := leK k; refine sg 1 ?_; refine sy 4 ?_; refine sH H (fun hc H => ?_) (fun hc H => ?_)
 ·refine gn 5 ?_; cases H; exact WpC.ret rt
 ·refine gn 5 ?_; cases H; exact WpC.ret rt
/-! ### I_isNonce -/
def I_isNonce (k : Nat) (a0 : Int) : Option Bool := (I_within k a0 0 1000000).bind fun r1 => some r1
theorem ent243 : MG.Enters Tryz.prog 243 := en func243
theorem g243 (k : Nat) (a0 : Int) (r : Bool) (H : I_isNonce k a0 = some r) : Gives Tryz.prog 243 [V.one (cI a0)] [] [V.one (cL r)] [] := by
 refine Gives.intro func243 rfl rfl rfl rfl ?_; refine fx fun w0 T S0 ob oh hm => ?_
 have hF := fxe w0 T S0 5 ob oh
 unfold I_isNonce at H; obtain ⟨K, hK⟩ := leK k; refine sg 1 ?_; refine sy 1 ?_; refine cB 1 ent66 (g66 k  a0 0 1000000) H fun r1 H => ?_; refine gn 1 ?_; cases H; exact WpC.ret rt
/-! ### I_isKey -/
def I_isKey (k : Nat) (a0 : Int) : Option Bool := (I_within k a0 1 1000000).bind fun r1 => some r1
theorem ent64 : MG.Enters Tryz.prog 64 := en func64
theorem g64 (k : Nat) (a0 : Int) (r : Bool) (H : I_isKey k a0 = some r) : Gives Tryz.prog 64 [V.one (cI a0)] [] [V.one (cL r)] [] := by
 refine Gives.intro func64 rfl rfl rfl rfl ?_; refine fx fun w0 T S0 ob oh hm => ?_
 have hF := fxe w0 T S0 5 ob oh
 unfold I_isKey at H; obtain ⟨K, hK⟩ := leK k; refine sg 1 ?_; refine sy 1 ?_; refine cB 1 ent66 (g66 k  a0 1 1000000) H fun r1 H => ?_; refine gn 1 ?_; cases H; exact WpC.ret rt
/-! ### I_isPrincipal -/
def I_isPrincipal (k : Nat) (a0 : Int) : Option Bool := (I_within k a0 0 5).bind fun r1 => some r1
theorem ent67 : MG.Enters Tryz.prog 67 := en func67
theorem g67 (k : Nat) (a0 : Int) (r : Bool) (H : I_isPrincipal k a0 = some r) : Gives Tryz.prog 67 [V.one (cI a0)] [] [V.one (cL r)] [] := by
 refine Gives.intro func67 rfl rfl rfl rfl ?_; refine fx fun w0 T S0 ob oh hm => ?_
 have hF := fxe w0 T S0 5 ob oh
 unfold I_isPrincipal at H; obtain ⟨K, hK⟩ := leK k; refine sg 1 ?_; refine sy 1 ?_; refine cB 1 ent66 (g66 k  a0 0 5) H fun r1 H => ?_; refine gn 1 ?_; cases H; exact WpC.ret rt
/-! ### I_waitOk -/
def I_waitOk (k : Nat) (a0 : T_Wait) : Option Bool := cond (!a0.On) (some ((a0.On == false) && ((a0.Nonce == 0) && ((a0.Key == 0) && ((a0.Client == 0) && true))))) ((I_isNonce k a0.Nonce).bind fun r4 => cond r4 ((I_isKey k a0.Key).bind fun r5 => cond r5 ((I_isPrincipal k a0.Client).bind fun r6 => some r6) (some false)) (some false))
theorem ent170 : MG.Enters Tryz.prog 170 := en func170
theorem g170 (k : Nat) (a0 : T_Wait) (r : Bool) (H : I_waitOk k a0 = some r) : Gives Tryz.prog 170 [V.agg (bT_Wait a0)] [] [V.one (cL r)] [] := by
 refine Gives.intro func170 rfl rfl rfl rfl ?_; refine fx fun w0 T S0 ob oh hm => ?_
 have hF := fxe w0 T S0 22 ob oh
 unfold I_waitOk at H; obtain ⟨K, hK⟩ := leK k; refine sr ?_; refine bo 4 ?_; refine gn 1 ?_; refine WpC.seq (sr ?_); refine gn 3 ?_; refine cd H (fun hc H => ?_) (fun hc H => ?_)
 ·refine sy 1 ?_; refine bf built198 ?_; refine L.eqA (r := ((a0.On == false) && ((a0.Nonce == 0) && ((a0.Key == 0) && ((a0.Client == 0) && true))))) hF rfl rfl rfl rfl rfl rfl (by kernel_rfl) (by kernel_rfl) ?_; refine gn 1 ?_; cases H; exact WpC.ret rt
 ·refine WpC.skip (sr ?_); refine go 2 ?_; refine cB 5 ent243 (g243 k  a0.Nonce) H fun r4 H => ?_; refine mv ?_; refine sH H (fun hc H => ?_) (fun hc H => ?_)
  ·refine go 2 ?_; refine cB 6 ent64 (g64 k  a0.Key) H fun r5 H => ?_; refine go 2 ?_; refine sH H (fun hc H => ?_) (fun hc H => ?_)
   ·refine go 2 ?_; refine cB 7 ent67 (g67 k  a0.Client) H fun r6 H => ?_; refine gn 2 ?_; cases H; exact WpC.ret rt
   ·refine gn 5 ?_; cases H; exact WpC.ret rt
  ·refine gn 10 ?_; cases H; exact WpC.ret rt
/-! ### I_isService -/
def I_isService (k : Nat) (a0 : Int) : Option Bool := (I_within k a0 0 2).bind fun r1 => some r1
theorem ent100 : MG.Enters Tryz.prog 100 := en func100
theorem g100 (k : Nat) (a0 : Int) (r : Bool) (H : I_isService k a0 = some r) : Gives Tryz.prog 100 [V.one (cI a0)] [] [V.one (cL r)] [] := by
 refine Gives.intro func100 rfl rfl rfl rfl ?_; refine fx fun w0 T S0 ob oh hm => ?_
 have hF := fxe w0 T S0 5 ob oh
 unfold I_isService at H; obtain ⟨K, hK⟩ := leK k; refine sg 1 ?_; refine sy 1 ?_; refine cB 1 ent66 (g66 k  a0 0 2) H fun r1 H => ?_; refine gn 1 ?_; cases H; exact WpC.ret rt
/-! ### I_isRealm -/
def I_isRealm (k : Nat) (a0 : Int) : Option Bool := (I_within k a0 0 2).bind fun r1 => some r1
theorem ent187 : MG.Enters Tryz.prog 187 := en func187
theorem g187 (k : Nat) (a0 : Int) (r : Bool) (H : I_isRealm k a0 = some r) : Gives Tryz.prog 187 [V.one (cI a0)] [] [V.one (cL r)] [] := by
 refine Gives.intro func187 rfl rfl rfl rfl ?_; refine fx fun w0 T S0 ob oh hm => ?_
 have hF := fxe w0 T S0 5 ob oh
 unfold I_isRealm at H; obtain ⟨K, hK⟩ := leK k; refine sg 1 ?_; refine sy 1 ?_; refine cB 1 ent66 (g66 k  a0 0 2) H fun r1 H => ?_; refine gn 1 ?_; cases H; exact WpC.ret rt
/-! ### I_isFor -/
def I_isFor (k : Nat) (a0 : Int) : Option Bool := (I_isService k a0).bind fun r3 => cond r3 (some true) ((I_isRealm k (IntKind.i64.wrap (a0 - 10))).bind fun r4 => some r4)
theorem ent244 : MG.Enters Tryz.prog 244 := en func244
theorem g244 (k : Nat) (a0 : Int) (r : Bool) (H : I_isFor k a0 = some r) : Gives Tryz.prog 244 [V.one (cI a0)] [] [V.one (cL r)] [] := by
 refine Gives.intro func244 rfl rfl rfl rfl ?_; refine fx fun w0 T S0 ob oh hm => ?_
 have hF := fxe w0 T S0 10 ob oh
 unfold I_isFor at H; obtain ⟨K, hK⟩ := leK k; refine sg 1 ?_; refine sy 1 ?_; refine cB 1 ent100 (g100 k  a0) H fun r3 H => ?_; refine mv ?_; refine sH H (fun hc H => ?_) (fun hc H => ?_)
 ·refine gn 5 ?_; cases H; exact WpC.ret rt
 ·refine go 2 ?_; refine cB 2 ent187 (g187 k  (IntKind.i64.wrap (a0 - 10))) H fun r4 H => ?_; refine gn 2 ?_; cases H; exact WpC.ret rt
/-! ### I_isTime -/
def I_isTime (k : Nat) (a0 : Int) : Option Bool := (I_within k a0 0 100000).bind fun r1 => some r1
theorem ent176 : MG.Enters Tryz.prog 176 := en func176
theorem g176 (k : Nat) (a0 : Int) (r : Bool) (H : I_isTime k a0 = some r) : Gives Tryz.prog 176 [V.one (cI a0)] [] [V.one (cL r)] [] := by
 refine Gives.intro func176 rfl rfl rfl rfl ?_; refine fx fun w0 T S0 ob oh hm => ?_
 have hF := fxe w0 T S0 5 ob oh
 unfold I_isTime at H; obtain ⟨K, hK⟩ := leK k; refine sg 1 ?_; refine sy 1 ?_; refine cB 1 ent66 (g66 k  a0 0 100000) H fun r1 H => ?_; refine gn 1 ?_; cases H; exact WpC.ret rt
/-! ### I_RestOk -/
def I_RestOk (k : Nat) (a0 : T_Rest) : Option Bool := (I_within k a0.Servers 0 7).bind fun r4 => cond r4 ((I_within k a0.Ops 0 255).bind fun r5 => cond r5 ((I_isTime k a0.End).bind fun r6 => some r6) (some false)) (some false)
theorem ent101 : MG.Enters Tryz.prog 101 := en func101
theorem g101 (k : Nat) (a0 : T_Rest) (r : Bool) (H : I_RestOk k a0 = some r) : Gives Tryz.prog 101 [V.agg (bT_Rest a0)] [] [V.one (cL r)] [] := by
 refine Gives.intro func101 rfl rfl rfl rfl ?_; refine fx fun w0 T S0 ob oh hm => ?_
 have hF := fxe w0 T S0 16 ob oh
 unfold I_RestOk at H; obtain ⟨K, hK⟩ := leK k; refine sr ?_; refine bo 3 ?_; refine gn 1 ?_; refine sy 2 ?_; refine cB 4 ent66 (g66 k  a0.Servers 0 7) H fun r4 H => ?_; refine mv ?_; refine sH H (fun hc H => ?_) (fun hc H => ?_)
 ·refine go 2 ?_; refine cB 5 ent66 (g66 k  a0.Ops 0 255) H fun r5 H => ?_; refine go 2 ?_; refine sH H (fun hc H => ?_) (fun hc H => ?_)
  ·refine go 2 ?_; refine cB 6 ent176 (g176 k  a0.End) H fun r6 H => ?_; refine gn 2 ?_; cases H; exact WpC.ret rt
  ·refine gn 5 ?_; cases H; exact WpC.ret rt
 ·refine gn 10 ?_; cases H; exact WpC.ret rt
/-! ### I_Var -/
def I_Var.l2 : Nat → Int → (List UInt8) → Option (List UInt8)
 | 0, _, _ => none
 | k2 + 1, v16, v17 => cond (decide (v16 > 127)) (cond (decide ((2 * (v17.length + ([(ofI (Go.bits .or .i64 (Go.bits .and .i64 v16 127) 128))] : List UInt8).length) + 192) * 1 ≤ 281474976710656)) ((I_Var.l2 k2) (shrI .i64 v16 7) (v17 ++ ([(ofI (Go.bits .or .i64 (Go.bits .and .i64 v16 127) 128))] : List UInt8))) none) (cond (decide ((2 * (v17.length + ([(ofI v16)] : List UInt8).length) + 192) * 1 ≤ 281474976710656)) (some (v17 ++ ([(ofI v16)] : List UInt8))) none)
def I_Var (k : Nat) (a0 : Int) : Option (List UInt8) := (I_within k a0 0 562949953421311).bind fun r2 => cond (!r2) (some ([] : List UInt8)) (I_Var.l2 k a0 ([] : List UInt8))
theorem ent302 : MG.Enters Tryz.prog 302 := en func302
theorem g302 (k : Nat) (a0 : Int) (r : List UInt8) (H : I_Var k a0 = some r) : Gives Tryz.prog 302 [V.one (cI a0)] [] [V.one (cS r)] [] := by
 refine Gives.intro func302 rfl rfl rfl rfl ?_; refine fx fun w0 T S0 ob oh hm => ?_
 have hF := fxe w0 T S0 25 ob oh
 unfold I_Var at H; obtain ⟨K, hK⟩ := leK k; refine sg 1 ?_; refine WpC.seq (sr ?_); refine mv ?_; refine cB 1 ent66 (g66 k  a0 0 562949953421311) H fun r2 H => ?_; refine gn 1 ?_; refine cd H (fun hc H => ?_) (fun hc H => ?_)
 ·refine sg 1 ?_; cases H; exact WpC.ret rt
 ·refine WpC.skip (sr ?_); refine L.buildSlice (e := eB) 2 ([] : List UInt8) underlying22 info5 rfl rfl rfl hF rfl rfl rfl rfl rfl rfl rfl rfl ?_; refine gn 1 ?_; refine WpC.seq (WpC.block ?_); refine WpC.loopL (P := Tryz.prog) (fun n σ => ∃ (v16 : Int) (v17 : List UInt8), n ≤ K ∧ I_Var.l2 n v16 v17 = some r ∧ σ = mkSt [(0, oI v16), (3, MG.one (Cell.own 0))] [(0, ⟨1, List.map eB v17⟩)] [] 1) k ⟨_, ⟨a0, ([] : List UInt8), by omega, H, rfl⟩, lm [(0, 2)] hm⟩ ?_; clear H
  rintro k2 _ ⟨v16, v17, hk2, H, rfl⟩
  cases k2 with
  | zero => cases H
  | succ k2 =>
   rw [I_Var.l2] at H
   refine WpC.seq (sr ?_); refine gn 2 ?_; refine cd H (fun hc H => ?_) (fun hc H => ?_)
   ·refine WpC.skip (WpC.block (sr ?_)); refine go 4 ?_; refine L.toB underlying3 underlying5 hF rfl rfl rfl ?_; refine L.buildSlice (e := eB) 1 ([(ofI (Go.bits .or .i64 (Go.bits .and .i64 v16 127) 128))] : List UInt8) underlying22 info5 rfl rfl rfl hF rfl rfl rfl rfl rfl rfl rfl rfl ?_; obtain ⟨h18, H⟩ := condG H; refine L.append (xs := v17) (ys := ([(ofI (Go.bits .or .i64 (Go.bits .and .i64 v16 127) 128))] : List UInt8)) (e := eB) 2 underlying22 info5 rfl rfl hF rfl rfl rfl rfl rfl rfl rfl rfl (fun _ => rfl) (fun _ _ h1 h2 => by cases h1; cases h2; rfl) ⟨_, underlying22⟩ (of_decide_eq_true h18) rfl rfl ?_; refine gn 1 ?_; refine WpC.regionL ?_; refine mv ?_; refine L.shr hF rfl rfl rfl rfl (by decide) ?_; refine gn 1 ?_; exact ⟨k2, _, by omega, ⟨(shrI .i64 v16 7), (v17 ++ ([(ofI (Go.bits .or .i64 (Go.bits .and .i64 v16 127) 128))] : List UInt8)), by omega, H, rfl⟩, lm [(0, 2)] hm⟩
   ·refine WpC.exit (sr ?_); refine go 2 ?_; refine L.toB underlying3 underlying5 hF rfl rfl rfl ?_; refine L.buildSlice (e := eB) 1 ([(ofI v16)] : List UInt8) underlying22 info5 rfl rfl rfl hF rfl rfl rfl rfl rfl rfl rfl rfl ?_; obtain ⟨h19, H⟩ := condG H; refine L.append (xs := v17) (ys := ([(ofI v16)] : List UInt8)) (e := eB) 2 underlying22 info5 rfl rfl hF rfl rfl rfl rfl rfl rfl rfl rfl (fun _ => rfl) (fun _ _ h1 h2 => by cases h1; cases h2; rfl) ⟨_, underlying22⟩ (of_decide_eq_true h19) rfl rfl ?_; refine L.b2s (xs := (v17 ++ ([(ofI v16)] : List UInt8))) underlying22 underlying5 underlying9 hF rfl rfl rfl rfl ?_; refine gn 1 ?_; cases H; exact WpC.ret rt
/-! ### I_ReadVar -/
def I_ReadVar.l2 : Nat → (List UInt8) → Int → Int → Option (Int × Int)
 | 0, _, _, _ => none
 | k2 + 1, v82, v83, v84 => cond (decide (v84 < (v82.length : Int))) (cond (decide (v84 < 7)) ((at? v82 v84).bind fun b92 => cond (!(decide ((IntKind.i64.wrap (7 * v84)) < 0))) ((at? v82 v84).bind fun b94 => cond (decide (b94 < (128 : UInt8))) ((I_Var k2 (Go.bits .or .i64 v83 (shlI .i64 ((b92 &&& (127 : UInt8)).toNat : Int) (IntKind.i64.wrap (7 * v84))))).bind fun r97 => (cut? v82 0 (IntKind.i64.wrap (v84 + 1))).bind fun b98 => cond (r97 != b98) (some (0, 0)) (some ((Go.bits .or .i64 v83 (shlI .i64 ((b92 &&& (127 : UInt8)).toNat : Int) (IntKind.i64.wrap (7 * v84)))), (IntKind.i64.wrap (v84 + 1))))) ((I_ReadVar.l2 k2) v82 (Go.bits .or .i64 v83 (shlI .i64 ((b92 &&& (127 : UInt8)).toNat : Int) (IntKind.i64.wrap (7 * v84)))) (IntKind.i64.wrap (v84 + 1)))) none) (some (0, 0))) (some (0, 0))
def I_ReadVar (k : Nat) (a0 : List UInt8) : Option (Int × Int) := I_ReadVar.l2 k a0 0 0
theorem ent275 : MG.Enters Tryz.prog 275 := en func275
theorem g275 (k : Nat) (a0 : List UInt8) (r : Int × Int) (H : I_ReadVar k a0 = some r) : Gives Tryz.prog 275 [V.one (cS a0)] [] [V.one (cI r.1), V.one (cI r.2)] [] := by
 refine Gives.intro func275 rfl rfl rfl rfl ?_; refine fx fun w0 T S0 ob oh hm => ?_
 have hF := fxe w0 T S0 40 ob oh
 unfold I_ReadVar at H; obtain ⟨K, hK⟩ := leK k; refine sg 2 ?_; refine sg 1 ?_; refine WpC.seq (sr ?_); refine gn 1 ?_; refine WpC.block ?_; refine WpC.loopL (P := Tryz.prog) (fun n σ => ∃ (v82 : List UInt8) (v83 v84 : Int), n ≤ K ∧ I_ReadVar.l2 n v82 v83 v84 = some r ∧ σ = mkSt [(0, oS v82), (4, oI v83), (5, oI v84)] [] [] 0) k ⟨_, ⟨a0, 0, 0, by omega, H, rfl⟩, lm [] hm⟩ ?_; clear H
 rintro k2 _ ⟨v82, v83, v84, hk2, H, rfl⟩
 cases k2 with
 | zero => cases H
 | succ k2 =>
  rw [I_ReadVar.l2] at H
  refine WpC.seq (sr ?_); refine go 2 ?_; refine L.lenS underlying9 hF rfl rfl rfl ?_; refine go 2 ?_; refine sH H (fun hc H => ?_) (fun hc H => ?_)
  ·refine gn 3 ?_; refine cd H (fun hc H => ?_) (fun hc H => ?_)
   ·refine WpC.skip (WpC.seq (WpC.block (sr ?_))); refine go 3 ?_; obtain ⟨b92, hb92, H⟩ := bindS H; refine L.idxS underlying9 hF rfl rfl rfl rfl hb92 ?_; refine L.binB (a := b92) (b := (127 : UInt8)) hF rfl rfl rfl rfl rfl ?_; refine L.ofB underlying5 underlying3 hF rfl rfl rfl ?_; refine go 2 ?_; obtain ⟨h93, H⟩ := condG H; refine L.shl hF rfl rfl rfl rfl (by simpa using h93) ?_; refine gn 2 ?_; refine sy 2 ?_; obtain ⟨b94, hb94, H⟩ := bindS H; refine L.idxS underlying9 hF rfl rfl rfl rfl hb94 ?_; refine L.binB (a := b94) (b := (128 : UInt8)) hF rfl rfl rfl rfl rfl (L.nil ?_); refine cd H (fun hc H => ?_) (fun hc H => ?_)
    ·refine WpC.seq (WpC.seq ?_); obtain ⟨r97, hr97, H⟩ := bindS H; obtain ⟨b98, hb98, H⟩ := bindS H; refine A.begin mixed rfl rfl ?_; intro W hI hO; refine hI _ _ _ ?_; refine tM 0 ?_; refine tM 2 ?_; refine tM 3 ?_; refine Atk 4 rfl (Ca.bin rfl rfl (calm_int _ _ _ _ _ _ _ _)) (fun Q0 k0 => bi (L.nil k0)) ?_; refine Atk 5 rfl (Ca.slice) (fun Q0 k0 => L.cutS underlying9 hF rfl rfl rfl rfl rfl hb98 (L.nil k0)) ?_; refine A.all [1] (by kernel_rfl) rfl ⟨⟨_, rfl, ?_⟩, trivial⟩; refine c0 0 ent302 (g302 k2  (Go.bits .or .i64 v83 (shlI .i64 ((b92 &&& (127 : UInt8)).toNat : Int) (IntKind.i64.wrap (7 * v84)))) r97 hr97) (L.nil ?_); refine Atk 6 rfl (Ca.bin rfl rfl (calm_str _ _ _ _ _ _)) (fun Q0 k0 => L.binS hF rfl rfl rfl rfl rfl (L.nil k0)) ?_; refine A.le (τ := mkSt [(4, MG.one (cI (Go.bits .or .i64 v83 (shlI .i64 ((b92 &&& (127 : UInt8)).toNat : Int) (IntKind.i64.wrap (7 * v84)))))), (5, oI v84), (36, oL (r97 != b98))] [] [] 0) (lm [] hm) ?_; refine A.done (by kernel_rfl) ?_; refine cd H (fun hc H => ?_) (fun hc H => ?_)
     ·refine sg 2 ?_; cases H; exact WpC.ret rt
     ·refine WpC.skip (sr ?_); refine gn 5 ?_; cases H; exact WpC.ret rt
    ·refine WpC.skip (WpC.regionL ?_); refine gn 3 ?_; exact ⟨k2, _, by omega, ⟨v82, (Go.bits .or .i64 v83 (shlI .i64 ((b92 &&& (127 : UInt8)).toNat : Int) (IntKind.i64.wrap (7 * v84)))), (IntKind.i64.wrap (v84 + 1)), by omega, H, rfl⟩, lm [] hm⟩
   ·refine WpC.exit (sr ?_); refine gn 2 ?_; cases H; exact WpC.ret rt
  ·refine gn 3 ?_; refine cF ?_; refine WpC.exit (sr ?_); refine gn 2 ?_; cases H; exact WpC.ret rt
/-! ### I_varAt -/
def I_varAt (k : Nat) (a0 : List UInt8) (a1 : Int) : Option (Int × Int) := (cut? a0 a1 (a0.length : Int)).bind fun b1 => (I_ReadVar k b1).bind fun r2 => cond (r2.2 == 0) (some ((-1), a1)) (some (r2.1, (IntKind.i64.wrap (a1 + r2.2))))
theorem ent222 : MG.Enters Tryz.prog 222 := en func222
theorem g222 (k : Nat) (a0 : List UInt8) (a1 : Int) (r : Int × Int) (H : I_varAt k a0 a1 = some r) : Gives Tryz.prog 222 [V.one (cS a0), V.one (cI a1)] [] [V.one (cI r.1), V.one (cI r.2)] [] := by
 refine Gives.intro func222 rfl rfl rfl rfl ?_; refine fx fun w0 T S0 ob oh hm => ?_
 have hF := fxe w0 T S0 22 ob oh
 unfold I_varAt at H; obtain ⟨K, hK⟩ := leK k; refine sg 2 ?_; refine sy 2 ?_; obtain ⟨b1, hb1, H⟩ := bindS H; refine L.cutS underlying9 hF rfl rfl rfl rfl rfl hb1 ?_; refine cB 2 ent275 (g275 k  b1) H fun r2 H => ?_; refine gn 5 ?_; refine WpC.seq (sr ?_); refine gn 2 ?_; refine cd H (fun hc H => ?_) (fun hc H => ?_)
 ·refine sg 3 ?_; cases H; exact WpC.ret rt
 ·refine WpC.skip (sr ?_); refine gn 6 ?_; cases H; exact WpC.ret rt
/-! ### I_termAt -/
def I_termAt.l4 (cREC : (List UInt8) → Int → Int → Option Int) : Nat → (List UInt8) → Int → Int → Int → Int → Option Int
 | 0, _, _, _, _, _ => none
 | k4 + 1, v96, v97, v98, v99, v100 => cond (decide (v100 < v98)) (cond (decide (v99 ≥ 0)) ((cREC v96 v99 (IntKind.i64.wrap (v97 - 1))).bind fun r102 => (I_termAt.l4 cREC k4) v96 v97 v98 r102 (IntKind.i64.wrap (v100 + 1))) (some v99)) (some v99)
def I_termAt : Nat → (List UInt8) → Int → Int → Option Int
 | 0, _, _, _ => none
 | k + 1, a0, a1, a2 => cond (decide (a1 ≥ (a0.length : Int))) (some (-1)) (cond (decide (a2 < 1)) (some (-1)) ((I_varAt k a0 (IntKind.i64.wrap (a1 + 1))).bind fun r1 => (at? a0 a1).bind fun b54 => cond (b54 == (97 : UInt8)) ((I_within k r1.1 0 40).bind fun r58 => cond (!r58) (some (-1)) (cond (decide (r1.1 > (IntKind.i64.wrap ((a0.length : Int) - r1.2)))) (some (-1)) (some (IntKind.i64.wrap (r1.2 + r1.1))))) (cond (b54 == (107 : UInt8)) ((I_isKey k r1.1).bind fun r60 => cond (!r60) (some (-1)) (some r1.2)) (cond (b54 == (108 : UInt8)) ((I_within k r1.1 0 12).bind fun r62 => cond (!r62) (some (-1)) (I_termAt.l4 (I_termAt k) k a0 a2 r1.1 r1.2 0)) (cond (b54 == (115 : UInt8)) ((I_isKey k r1.1).bind fun r104 => cond (!r104) (some (-1)) (((I_termAt k) a0 r1.2 (IntKind.i64.wrap (a2 - 1))).bind fun r105 => some r105)) (some (-1)))))))
theorem ent217 : MG.Enters Tryz.prog 217 := en func217
theorem g217 : ∀ (k : Nat) (a0 : List UInt8) (a1 a2 r : Int) (H : I_termAt k a0 a1 a2 = some r), Gives Tryz.prog 217 [V.one (cS a0), V.one (cI a1), V.one (cI a2)] [] [V.one (cI r)] [] := by
 intro k
 induction k with
 | zero => intros; rename_i H; cases H
 | succ k ih =>
  intro a0 a1 a2 r H; refine Gives.intro func217 rfl rfl rfl rfl ?_; refine fx fun w0 T S0 ob oh hm => ?_
  have hF := fxe w0 T S0 80 ob oh
  rw [I_termAt] at H
  obtain ⟨K, hK⟩ := leK k; refine sg 1 ?_; refine WpC.seq (sr ?_); refine go 2 ?_; refine L.lenS underlying9 hF rfl rfl rfl ?_; refine go 2 ?_; refine sH H (fun hc H => ?_) (fun hc H => ?_)
  ·refine gn 3 ?_; refine cT ?_; refine sg 1 ?_; cases H; exact WpC.ret rt
  ·refine gn 3 ?_; refine cd H (fun hc H => ?_) (fun hc H => ?_)
   ·refine sg 1 ?_; cases H; exact WpC.ret rt
   ·refine WpC.skip (sr ?_); refine go 3 ?_; refine cB 3 ent222 (g222 k  a0 (IntKind.i64.wrap (a1 + 1))) H fun r1 H => ?_; refine gn 5 ?_; refine WpC.seq (sr ?_); refine go 2 ?_; obtain ⟨b54, hb54, H⟩ := bindS H; refine L.idxS underlying9 hF rfl rfl rfl rfl hb54 (L.nil ?_); refine WpC.block (sr ?_); refine L.binB (a := b54) (b := (97 : UInt8)) hF rfl rfl rfl rfl rfl ?_; refine gn 1 ?_; refine cd H (fun hc H => ?_) (fun hc H => ?_)
    ·refine WpC.seq (sr ?_); refine mv ?_; refine cB 5 ent66 (g66 k  r1.1 0 40) H fun r58 H => ?_; refine go 2 ?_; refine sH H (fun hc H => ?_) (fun hc H => ?_)
     ·refine gn 7 ?_; refine cT ?_; refine sg 1 ?_; cases H; exact WpC.ret rt
     ·refine go 2 ?_; refine L.lenS underlying9 hF rfl rfl rfl ?_; refine gn 4 ?_; refine cd H (fun hc H => ?_) (fun hc H => ?_)
      ·refine sg 1 ?_; cases H; exact WpC.ret rt
      ·refine WpC.skip (sr ?_); refine gn 4 ?_; cases H; exact WpC.ret rt
    ·refine sr ?_; refine L.binB (a := b54) (b := (107 : UInt8)) hF rfl rfl rfl rfl rfl ?_; refine gn 1 ?_; refine cd H (fun hc H => ?_) (fun hc H => ?_)
     ·refine WpC.seq (sr ?_); refine mv ?_; refine cB 5 ent64 (g64 k  r1.1) H fun r60 H => ?_; refine gn 1 ?_; refine cd H (fun hc H => ?_) (fun hc H => ?_)
      ·refine sg 1 ?_; cases H; exact WpC.ret rt
      ·refine WpC.skip (sr ?_); refine gn 2 ?_; cases H; exact WpC.ret rt
     ·refine sr ?_; refine L.binB (a := b54) (b := (108 : UInt8)) hF rfl rfl rfl rfl rfl ?_; refine gn 1 ?_; refine cd H (fun hc H => ?_) (fun hc H => ?_)
      ·refine WpC.seq (sr ?_); refine mv ?_; refine cB 5 ent66 (g66 k  r1.1 0 12) H fun r62 H => ?_; refine gn 1 ?_; refine cd H (fun hc H => ?_) (fun hc H => ?_)
       ·refine sg 1 ?_; cases H; exact WpC.ret rt
       ·refine WpC.skip (WpC.seq (sr ?_)); refine gn 1 ?_; refine WpC.block ?_; refine WpC.loopL (P := Tryz.prog) (fun n σ => ∃ (v96 : List UInt8) (v97 v98 v99 v100 : Int), n ≤ K ∧ I_termAt.l4 (I_termAt k) n v96 v97 v98 v99 v100 = some r ∧ σ = mkSt [(0, oS v96), (2, oI v97), (7, oI v98), (8, oI v99), (9, oI v100)] [] [] 0) k ⟨_, ⟨a0, a2, r1.1, r1.2, 0, by omega, H, rfl⟩, lm [] hm⟩ ?_; clear H
        rintro k4 _ ⟨v96, v97, v98, v99, v100, hk4, H, rfl⟩
        cases k4 with
        | zero => cases H
        | succ k4 =>
         rw [I_termAt.l4] at H
         refine WpC.seq (sr ?_); refine go 4 ?_; refine sH H (fun hc H => ?_) (fun hc H => ?_)
         ·refine gn 3 ?_; refine cd H (fun hc H => ?_) (fun hc H => ?_)
          ·refine WpC.skip (WpC.seq (WpC.block (WpC.regionL ?_))); refine go 4 ?_; refine cB 0 ent217 (ih  v96 v99 (IntKind.i64.wrap (v97 - 1))) H fun r102 H => ?_; refine gn 1 ?_; refine WpC.regionL ?_; refine gn 3 ?_; exact ⟨k4, _, by omega, ⟨v96, v97, v98, r102, (IntKind.i64.wrap (v100 + 1)), by omega, H, rfl⟩, lm [] hm⟩
          ·refine WpC.exit (sr ?_); refine gn 2 ?_; cases H; exact WpC.ret rt
         ·refine gn 3 ?_; refine cF ?_; refine WpC.exit (sr ?_); refine gn 2 ?_; cases H; exact WpC.ret rt
      ·refine sr ?_; refine L.binB (a := b54) (b := (115 : UInt8)) hF rfl rfl rfl rfl rfl ?_; refine gn 1 ?_; refine cd H (fun hc H => ?_) (fun hc H => ?_)
       ·refine WpC.seq (sr ?_); refine mv ?_; refine cB 5 ent64 (g64 k  r1.1) H fun r104 H => ?_; refine gn 1 ?_; refine cd H (fun hc H => ?_) (fun hc H => ?_)
        ·refine sg 1 ?_; cases H; exact WpC.ret rt
        ·refine WpC.skip (sr ?_); refine go 4 ?_; refine cB 6 ent217 (ih  a0 r1.2 (IntKind.i64.wrap (a2 - 1))) H fun r105 H => ?_; refine gn 1 ?_; cases H; exact WpC.ret rt
       ·refine WpC.skip (sr ?_); refine gn 1 ?_; cases H; exact WpC.ret rt
/-! ### I_TermOk -/
def I_TermOk (k : Nat) (a0 : List UInt8) : Option Bool := (I_within k (a0.length : Int) 1 900).bind fun r3 => cond r3 ((I_termAt k a0 0 8).bind fun r4 => some (r4 == (a0.length : Int))) (some false)
theorem ent144 : MG.Enters Tryz.prog 144 := en func144
theorem g144 (k : Nat) (a0 : List UInt8) (r : Bool) (H : I_TermOk k a0 = some r) : Gives Tryz.prog 144 [V.one (cS a0)] [] [V.one (cL r)] [] := by
 refine Gives.intro func144 rfl rfl rfl rfl ?_; refine fx fun w0 T S0 ob oh hm => ?_
 have hF := fxe w0 T S0 13 ob oh
 unfold I_TermOk at H; obtain ⟨K, hK⟩ := leK k; refine sg 1 ?_; refine sy 1 ?_; refine L.lenS underlying9 hF rfl rfl rfl ?_; refine cB 1 ent66 (g66 k  (a0.length : Int) 1 900) H fun r3 H => ?_; refine mv ?_; refine sH H (fun hc H => ?_) (fun hc H => ?_)
 ·refine mv ?_; refine cB 2 ent217 (g217 k  a0 0 8) H fun r4 H => ?_; refine mv ?_; refine L.lenS underlying9 hF rfl rfl rfl ?_; refine gn 3 ?_; cases H; exact WpC.ret rt
 ·refine gn 7 ?_; cases H; exact WpC.ret rt
/-! ### I_CredOk -/
def I_CredOk (k : Nat) (a0 : T_Cred) : Option Bool := (I_isPrincipal k a0.Owner).bind fun r7 => cond r7 ((I_isPrincipal k a0.Client).bind fun r8 => cond r8 ((I_isFor k a0.Service).bind fun r9 => cond r9 ((I_isKey k a0.Key).bind fun r10 => cond r10 ((I_RestOk k a0.Rest).bind fun r11 => cond r11 ((I_TermOk k a0.Ticket).bind fun r12 => some r12) (some false)) (some false)) (some false)) (some false)) (some false)
theorem ent171 : MG.Enters Tryz.prog 171 := en func171
theorem g171 (k : Nat) (a0 : T_Cred) (r : Bool) (H : I_CredOk k a0 = some r) : Gives Tryz.prog 171 [V.agg (bT_Cred a0)] [] [V.one (cL r)] [] := by
 refine Gives.intro func171 rfl rfl rfl rfl ?_; refine fx fun w0 T S0 ob oh hm => ?_
 have hF := fxe w0 T S0 31 ob oh
 unfold I_CredOk at H; obtain ⟨K, hK⟩ := leK k; refine sr ?_; refine bo 8 ?_; refine gn 1 ?_; refine sy 2 ?_; refine cB 9 ent67 (g67 k  a0.Owner) H fun r7 H => ?_; refine mv ?_; refine sH H (fun hc H => ?_) (fun hc H => ?_)
 ·refine go 2 ?_; refine cB 10 ent67 (g67 k  a0.Client) H fun r8 H => ?_; refine go 2 ?_; refine sH H (fun hc H => ?_) (fun hc H => ?_)
  ·refine go 2 ?_; refine cB 11 ent244 (g244 k  a0.Service) H fun r9 H => ?_; refine go 2 ?_; refine sH H (fun hc H => ?_) (fun hc H => ?_)
   ·refine go 2 ?_; refine cB 12 ent64 (g64 k  a0.Key) H fun r10 H => ?_; refine go 2 ?_; refine sH H (fun hc H => ?_) (fun hc H => ?_)
    ·refine go 2 ?_; refine cB 13 ent101 (g101 k  a0.Rest) H fun r11 H => ?_; refine go 2 ?_; refine sH H (fun hc H => ?_) (fun hc H => ?_)
     ·refine go 2 ?_; refine cB 14 ent144 (g144 k  a0.Ticket) H fun r12 H => ?_; refine gn 2 ?_; cases H; exact WpC.ret rt
     ·refine gn 5 ?_; cases H; exact WpC.ret rt
    ·refine gn 10 ?_; cases H; exact WpC.ret rt
   ·refine gn 15 ?_; cases H; exact WpC.ret rt
  ·refine gn 20 ?_; cases H; exact WpC.ret rt
 ·refine gn 25 ?_; cases H; exact WpC.ret rt
/-! ### I_authOk -/
def I_authOk (k : Nat) (a0 : T_Auth) : Option Bool := (I_isPrincipal k a0.Client).bind fun r4 => cond r4 ((I_isTime k a0.Time).bind fun r5 => cond r5 ((I_within k a0.Seq 0 1000000).bind fun r6 => some r6) (some false)) (some false)
theorem ent245 : MG.Enters Tryz.prog 245 := en func245
theorem g245 (k : Nat) (a0 : T_Auth) (r : Bool) (H : I_authOk k a0 = some r) : Gives Tryz.prog 245 [V.agg (bT_Auth a0)] [] [V.one (cL r)] [] := by
 refine Gives.intro func245 rfl rfl rfl rfl ?_; refine fx fun w0 T S0 ob oh hm => ?_
 have hF := fxe w0 T S0 16 ob oh
 unfold I_authOk at H; obtain ⟨K, hK⟩ := leK k; refine sr ?_; refine bo 3 ?_; refine gn 1 ?_; refine sy 2 ?_; refine cB 4 ent67 (g67 k  a0.Client) H fun r4 H => ?_; refine mv ?_; refine sH H (fun hc H => ?_) (fun hc H => ?_)
 ·refine go 2 ?_; refine cB 5 ent176 (g176 k  a0.Time) H fun r5 H => ?_; refine go 2 ?_; refine sH H (fun hc H => ?_) (fun hc H => ?_)
  ·refine go 2 ?_; refine cB 6 ent66 (g66 k  a0.Seq 0 1000000) H fun r6 H => ?_; refine gn 2 ?_; cases H; exact WpC.ret rt
  ·refine gn 5 ?_; cases H; exact WpC.ret rt
 ·refine gn 10 ?_; cases H; exact WpC.ret rt
/-! ### V_Index_Auth -/
def V_Index_Auth.l2 : Nat → (List T_Auth) → Int → Int → T_Auth → Option Int
 | 0, _, _, _, _ => none
 | k2 + 1, v29, v30, v31, v32 => cond (decide (v31 < v30)) ((at? v29 v31).bind fun b34 => cond ((v32.Client == b34.Client) && ((v32.Time == b34.Time) && ((v32.Seq == b34.Seq) && true))) (some v31) ((V_Index_Auth.l2 k2) v29 v30 (IntKind.i64.wrap (v31 + 1)) v32)) (some (-1))
def V_Index_Auth (k : Nat) (a0 : List T_Auth) (a1 : T_Auth) : Option Int := V_Index_Auth.l2 k a0 (a0.length : Int) 0 a1
theorem ent282 : MG.Enters Tryz.prog 282 := en func282
theorem g282 (k : Nat) (g0 : Bool) (a0 : List T_Auth) (a1 : T_Auth) (r : Int) (H : V_Index_Auth k a0 a1 = some r) : Gives Tryz.prog 282 [V.one (Cell.sl g0 (List.map eT_Auth a0)), V.agg (bT_Auth a1)] [] [V.one (cI r)] [] := by
 refine Gives.intro func282 rfl rfl rfl rfl ?_; refine fx fun w0 T S0 ob oh hm => ?_
 have hF := fxe w0 T S0 19 ob oh
 unfold V_Index_Auth at H; obtain ⟨K, hK⟩ := leK k; refine sr ?_; refine bo 4 ?_; refine gn 1 ?_; refine WpC.seq (sr ?_); refine mv ?_; refine L.lenR (xs := a0) (e := eT_Auth) underlying168 hF rfl rfl rfl rfl ?_; refine gn 1 ?_; refine WpC.block ?_; refine WpC.loopL (P := Tryz.prog) (fun n σ => ∃ (v29 : List T_Auth) (v30 v31 : Int) (v32 : T_Auth), n ≤ K ∧ V_Index_Auth.l2 n v29 v30 v31 v32 = some r ∧ σ = mkSt [(0, MG.one (Cell.sl g0 (List.map eT_Auth v29))), (3, oP 0 0), (7, oI v30), (8, oI v31)] [] [(0, (bT_Auth v32))] 1) k ⟨_, ⟨a0, (a0.length : Int), 0, a1, by omega, H, rfl⟩, lm [(0, 4)] hm⟩ ?_; clear H
 rintro k2 _ ⟨v29, v30, v31, v32, hk2, H, rfl⟩
 cases k2 with
 | zero => cases H
 | succ k2 =>
  rw [V_Index_Auth.l2] at H
  refine sg 1 ?_; refine WpC.seq ?_; refine cd H (fun hc H => ?_) (fun hc H => ?_)
  ·refine WpC.skip (WpC.seq (WpC.block (sr ?_))); refine gn 2 ?_; refine WpC.seq ?_; refine S.begin mixed (by kernel_rfl) ?_; refine S.st 0 rfl rfl (Qu.load) (fun Q0 k0 => lp shape72 (L.nil k0)) ?_; refine S.st 1 rfl rfl ((Ca.move).quiet) (fun Q0 k0 => mv (L.nil k0)) ?_; refine S.st 2 rfl rfl ((Ca.move).quiet) (fun Q0 k0 => mv (L.nil k0)) ?_; obtain ⟨b34, hb34, H⟩ := bindS H; refine S.st 3 rfl rfl ((Ca.indexAddr).quiet) (fun Q0 k0 => ix underlying168 info72 hb34 (L.nil k0)) ?_; refine S.st 4 rfl rfl (Qu.load) (fun Q0 k0 => le shape72 (L.nil k0)) ?_; refine S.st 5 rfl rfl ((Ca.eqA (r := ((v32.Client == b34.Client) && ((v32.Time == b34.Time) && ((v32.Seq == b34.Seq) && true)))) rfl rfl rfl rfl (by kernel_rfl) (by kernel_rfl)).quiet) (fun Q0 k0 => L.eqA (r := ((v32.Client == b34.Client) && ((v32.Time == b34.Time) && ((v32.Seq == b34.Seq) && true)))) hF rfl rfl rfl rfl rfl rfl (by kernel_rfl) (by kernel_rfl) (L.nil k0)) ?_; refine S.nil ?_; refine cd H (fun hc H => ?_) (fun hc H => ?_)
   ·refine sg 2 ?_; cases H; exact WpC.ret rt
   ·refine WpC.skip (WpC.regionL ?_); refine gn 2 ?_; exact ⟨k2, _, by omega, ⟨v29, v30, (IntKind.i64.wrap (v31 + 1)), v32, by omega, H, rfl⟩, lm [(0, 0)] hm⟩
  ·refine WpC.exit (sr ?_); refine gn 1 ?_; cases H; exact WpC.ret rt
/-! ### V_Contains_Auth -/
def V_Contains_Auth (k : Nat) (a0 : List T_Auth) (a1 : T_Auth) : Option Bool := (V_Index_Auth k a0 a1).bind fun r1 => some (decide (r1 ≥ 0))
theorem ent246 : MG.Enters Tryz.prog 246 := en func246
theorem g246 (k : Nat) (g0 : Bool) (a0 : List T_Auth) (a1 : T_Auth) (r : Bool) (H : V_Contains_Auth k a0 a1 = some r) : Gives Tryz.prog 246 [V.one (Cell.sl g0 (List.map eT_Auth a0)), V.agg (bT_Auth a1)] [] [V.one (cL r)] [] := by
 refine Gives.intro func246 rfl rfl rfl rfl ?_; refine fx fun w0 T S0 ob oh hm => ?_
 have hF := fxe w0 T S0 9 ob oh
 unfold V_Contains_Auth at H; obtain ⟨K, hK⟩ := leK k; refine sr ?_; refine bo 4 ?_; refine gn 1 ?_; refine sy 2 ?_; refine cB 5 ent282 (g282 k g0 a0 a1) H fun r1 H => ?_; refine gn 2 ?_; cases H; exact WpC.ret rt
/-! ### I_CacheOk -/
def I_CacheOk.l2 : Nat → T_Cache → Int → Int → Option Bool
 | 0, _, _, _ => none
 | k2 + 1, v84, v85, v86 => cond (decide (v86 < v85)) ((at? v84.Seen v86).bind fun b94 => (I_authOk k2 b94).bind fun r98 => cond (!r98) (some false) ((part? v84.Seen 0 v86).bind fun b100 => (V_Contains_Auth k2 b100 b94).bind fun r101 => cond r101 (some false) ((I_CacheOk.l2 k2) v84 v85 (IntKind.i64.wrap (v86 + 1))))) ((I_within k2 v84.Quiet (-1) 200000).bind fun r103 => cond r103 (some (decide ((v84.Seen.length : Int) ≤ 6))) (some false))
def I_CacheOk (k : Nat) (a0 : T_Cache) : Option Bool := I_CacheOk.l2 k a0 (a0.Seen.length : Int) 0
theorem ent172 : MG.Enters Tryz.prog 172 := en func172
theorem g172 (k : Nat) (g0 : Bool) (a0 : T_Cache) (r : Bool) (H : I_CacheOk k a0 = some r) : Gives Tryz.prog 172 [V.agg [cI a0.Quiet, Cell.sl g0 (List.map eT_Auth a0.Seen)]] [] [V.one (cL r)] [] := by
 refine Gives.intro func172 rfl rfl rfl rfl ?_; refine fx fun w0 T S0 ob oh hm => ?_
 have hF := fxe w0 T S0 34 ob oh
 unfold I_CacheOk at H; obtain ⟨K, hK⟩ := leK k; refine sr ?_; refine bo 2 ?_; refine gn 1 ?_; refine WpC.seq (sr ?_); refine go 2 ?_; refine L.lenR (xs := a0.Seen) (e := eT_Auth) underlying168 hF rfl rfl rfl rfl ?_; refine gn 1 ?_; refine WpC.block ?_; refine WpC.loopL (P := Tryz.prog) (fun n σ => ∃ (v84 : T_Cache) (v85 v86 : Int), n ≤ K ∧ I_CacheOk.l2 n v84 v85 v86 = some r ∧ σ = mkSt [(1, oP 0 0), (6, MG.one (Cell.sl g0 (List.map eT_Auth v84.Seen))), (7, oI v85), (8, oI v86)] [] [(0, [cI v84.Quiet, Cell.sl g0 (List.map eT_Auth v84.Seen)])] 1) k ⟨_, ⟨a0, (a0.Seen.length : Int), 0, by omega, H, rfl⟩, lm [(0, 2)] hm⟩ ?_; clear H
 rintro k2 _ ⟨v84, v85, v86, hk2, H, rfl⟩
 cases k2 with
 | zero => cases H
 | succ k2 =>
  rw [I_CacheOk.l2] at H
  refine sg 1 ?_; refine WpC.seq ?_; refine cd H (fun hc H => ?_) (fun hc H => ?_)
  ·refine WpC.skip (WpC.seq (WpC.block (sr ?_))); refine mv ?_; obtain ⟨b94, hb94, H⟩ := bindS H; refine ix underlying168 info72 hb94 ?_; refine le shape72 ?_; refine alc 1 info72 ?_; refine gn 2 ?_; refine WpC.seq ?_; obtain ⟨r98, hr98, H⟩ := bindS H
   rcases Bool.eq_false_or_eq_true ((!r98)) with hc99 | hc99
   ·replace H := condT hc99 H
    refine A.begin mixed rfl rfl ?_; intro W hI hO; refine hI _ _ _ ?_; refine A.all [0] (by kernel_rfl) rfl ⟨⟨_, rfl, ?_⟩, trivial⟩; refine gn 1 ?_; refine A.all [1] (by kernel_rfl) rfl ⟨⟨_, rfl, ?_⟩, trivial⟩; refine c0 2 ent245 (g245 k2  b94 r98 hr98) (L.nil ?_); refine Atk 2 rfl (Ca.un rfl rfl) (fun Q0 k0 => nt (L.nil k0)) ?_; refine tM 3 ?_; refine A.le (τ := mkSt [(1, oP 0 0), (3, oI v86), (4, oP 1 0), (6, MG.one (Cell.sl g0 (List.map eT_Auth v84.Seen))), (7, oI v85), (8, oI v86), (16, oL true)] [] [(0, [cI v84.Quiet, Cell.sl g0 (List.map eT_Auth v84.Seen)]), (1, (bT_Auth b94))] 2) (Le.mk [(0, 0), (1, 1)] hm rfl (Sa4 (Sa2 (Sa1 trivial rfl (congrArg (fun b => some (MG.one (cL b))) hc99)))) trivial (Ba2 trivial)) ?_; refine tO 4 ?_; refine tO 5 ?_; refine tO 6 ?_; refine tO 7 ?_; refine tO 8 ?_; refine A.all [9] (by kernel_rfl) rfl ⟨⟨_, rfl, ?_⟩, trivial⟩; refine gn 1 ?_; refine tP 10 ?_; refine A.le (τ := mkSt [(1, oP 0 0), (6, MG.one (Cell.sl g0 (List.map eT_Auth v84.Seen))), (7, oI v85), (8, oI v86), (23, oL true)] [] [(0, [cI v84.Quiet, Cell.sl g0 (List.map eT_Auth v84.Seen)])] 1) (lm [(0, 0)] hm) ?_; refine A.done (by kernel_rfl) ?_; refine cT ?_
    refine sg 1 ?_; cases H; exact WpC.ret rt
   ·replace H := condF hc99 H
    obtain ⟨b100, hb100, H⟩ := bindS H; obtain ⟨r101, hr101, H⟩ := bindS H; refine A.begin mixed rfl rfl ?_; intro W hI hO
    have n511 : W 2 #[true, true, true, true, true, true, true, true, true, false, false] (mkSt [(1, oP 0 0), (6, MG.one (Cell.sl g0 (List.map eT_Auth v84.Seen))), (7, oI v85), (8, oI v86), (16, oL false), (20, MG.one (Cell.sl g0 (List.map eT_Auth b100))), (21, agg (bT_Auth b94))] [] [(0, [cI v84.Quiet, Cell.sl g0 (List.map eT_Auth v84.Seen)])] 1) := by
     refine hI _ _ _ ?_; refine A.all [9] (by kernel_rfl) rfl ⟨⟨_, rfl, ?_⟩, trivial⟩; refine c0 1 ent246 (g246 k2 g0 b100 b94 r101 hr101) (L.nil ?_); refine tP 10 ?_; refine A.le (τ := mkSt [(1, oP 0 0), (6, MG.one (Cell.sl g0 (List.map eT_Auth v84.Seen))), (7, oI v85), (8, oI v86), (23, oL r101)] [] [(0, [cI v84.Quiet, Cell.sl g0 (List.map eT_Auth v84.Seen)])] 1) (lm [(0, 0)] hm) ?_; refine A.done (by kernel_rfl) ?_; refine cd H (fun hc H => ?_) (fun hc H => ?_)
     ·refine sg 1 ?_; cases H; exact WpC.ret rt
     ·refine WpC.skip (WpC.regionL ?_); refine gn 2 ?_; exact ⟨k2, _, by omega, ⟨v84, v85, (IntKind.i64.wrap (v86 + 1)), by omega, H, rfl⟩, lm [(0, 0)] hm⟩
    refine hI _ _ _ ?_; refine A.all [0] (by kernel_rfl) rfl ⟨⟨_, rfl, ?_⟩, trivial⟩; refine gn 1 ?_; refine A.all [1] (by kernel_rfl) rfl ⟨⟨_, rfl, ?_⟩, trivial⟩; refine c0 2 ent245 (g245 k2  b94 r98 hr98) (L.nil ?_); refine Atk 2 rfl (Ca.un rfl rfl) (fun Q0 k0 => nt (L.nil k0)) ?_; refine tM 3 ?_; refine A.le (τ := mkSt [(1, oP 0 0), (3, oI v86), (4, oP 1 0), (6, MG.one (Cell.sl g0 (List.map eT_Auth v84.Seen))), (7, oI v85), (8, oI v86), (16, oL false)] [] [(0, [cI v84.Quiet, Cell.sl g0 (List.map eT_Auth v84.Seen)]), (1, (bT_Auth b94))] 2) (Le.mk [(0, 0), (1, 1)] hm rfl (Sa4 (Sa2 (Sa1 trivial rfl (congrArg (fun b => some (MG.one (cL b))) hc99)))) trivial (Ba2 trivial)) ?_; refine tF 4 underlying170 info168 ?_; refine tM 6 ?_; refine A.all [5, 8] (by kernel_rfl) rfl ⟨⟨_, rfl, ?_⟩, ⟨_, rfl, ?_⟩, trivial⟩
    ·refine gn 1 ?_; refine Atk 7 rfl (Ca.slice) (fun Q0 k0 => L.cutR (xs := v84.Seen) (ys := b100) (e := eT_Auth) underlying168 info72 hF rfl rfl rfl rfl rfl hb100 (fun _ => rfl) (L.nil k0)) ?_; refine A.all [8] (by kernel_rfl) rfl ⟨⟨_, rfl, ?_⟩, trivial⟩; refine gn 1 ?_; exact A.on (hO _ _ _ n511) (lm [(0, 0)] hm)
    ·refine gn 1 ?_; refine A.all [5] (by kernel_rfl) rfl ⟨⟨_, rfl, ?_⟩, trivial⟩; refine gn 1 ?_; refine Atk 7 rfl (Ca.slice) (fun Q0 k0 => L.cutR (xs := v84.Seen) (ys := b100) (e := eT_Auth) underlying168 info72 hF rfl rfl rfl rfl rfl hb100 (fun _ => rfl) (L.nil k0)) ?_; exact A.on (hO _ _ _ n511) (lm [(0, 0)] hm)
  ·refine WpC.exit (sr ?_); refine go 2 ?_; refine cB 1 ent66 (g66 k2  v84.Quiet (-1) 200000) H fun r103 H => ?_; refine mv ?_; refine sH H (fun hc H => ?_) (fun hc H => ?_)
   ·refine go 2 ?_; refine L.lenR (xs := v84.Seen) (e := eT_Auth) underlying168 hF rfl rfl rfl rfl ?_; refine gn 3 ?_; cases H; exact WpC.ret rt
   ·refine gn 6 ?_; cases H; exact WpC.ret rt
/-! ### I_areAll__impl_isRealm -/
def I_areAll__impl_isRealm.l2 : Nat → (List Int) → Int → Int → Int → Option Bool
 | 0, _, _, _, _ => none
 | k2 + 1, v39, v40, v41, v42 => cond (decide (v42 < v41)) ((at? v39 v42).bind fun b45 => (I_isRealm k2 b45).bind fun r46 => cond (!r46) (some false) ((I_areAll__impl_isRealm.l2 k2) v39 v40 v41 (IntKind.i64.wrap (v42 + 1)))) (some (decide ((v39.length : Int) ≤ v40)))
def I_areAll__impl_isRealm (k : Nat) (a0 : List Int) (a1 : Int) : Option Bool := I_areAll__impl_isRealm.l2 k a0 a1 (a0.length : Int) 0
theorem ent189 : MG.Enters Tryz.prog 189 := en func189
theorem g189 (k : Nat) (g0 : Bool) (a0 : List Int) (a1 : Int) (r : Bool) (H : I_areAll__impl_isRealm k a0 a1 = some r) : Gives Tryz.prog 189 [V.one (Cell.sl g0 (List.map eI a0)), V.one (cI a1), V.one (Cell.clo 187 [])] [] [V.one (cL r)] [] := by
 refine Gives.intro func189 rfl rfl rfl rfl ?_; refine fx fun w0 T S0 ob oh hm => ?_
 have hF := fxe w0 T S0 24 ob oh
 unfold I_areAll__impl_isRealm at H; obtain ⟨K, hK⟩ := leK k; refine sg 1 ?_; refine WpC.seq (sr ?_); refine mv ?_; refine L.lenR (xs := a0) (e := eI) underlying24 hF rfl rfl rfl rfl ?_; refine gn 1 ?_; refine WpC.block ?_; refine WpC.loopL (P := Tryz.prog) (fun n σ => ∃ (v39 : List Int) (v40 v41 v42 : Int), n ≤ K ∧ I_areAll__impl_isRealm.l2 n v39 v40 v41 v42 = some r ∧ σ = mkSt [(0, MG.one (Cell.sl g0 (List.map eI v39))), (1, oI v40), (2, MG.one (Cell.clo 187 [])), (9, MG.one (Cell.sl g0 (List.map eI v39))), (10, oI v41), (11, oI v42)] [] [] 0) k ⟨_, ⟨a0, a1, (a0.length : Int), 0, by omega, H, rfl⟩, lm [] hm⟩ ?_; clear H
 rintro k2 _ ⟨v39, v40, v41, v42, hk2, H, rfl⟩
 cases k2 with
 | zero => cases H
 | succ k2 =>
  rw [I_areAll__impl_isRealm.l2] at H
  refine sg 1 ?_; refine WpC.seq ?_; refine cd H (fun hc H => ?_) (fun hc H => ?_)
  ·refine WpC.skip (WpC.seq (WpC.block (sr ?_))); obtain ⟨b45, hb45, H⟩ := bindS H; refine ix underlying24 info3 hb45 ?_; refine gn 2 ?_; refine sy 2 ?_; refine cB 0 ent187 (g187 k2  b45) H fun r46 H => ?_; refine gn 1 ?_; refine cd H (fun hc H => ?_) (fun hc H => ?_)
   ·refine sg 1 ?_; cases H; exact WpC.ret rt
   ·refine WpC.skip (WpC.regionL ?_); refine gn 2 ?_; exact ⟨k2, _, by omega, ⟨v39, v40, v41, (IntKind.i64.wrap (v42 + 1)), by omega, H, rfl⟩, lm [] hm⟩
  ·refine WpC.exit (sr ?_); refine mv ?_; refine L.lenR (xs := v39) (e := eI) underlying24 hF rfl rfl rfl rfl ?_; refine gn 3 ?_; cases H; exact WpC.ret rt
/-! ### I_areAll__impl_isService -/
def I_areAll__impl_isService.l2 : Nat → (List Int) → Int → Int → Int → Option Bool
 | 0, _, _, _, _ => none
 | k2 + 1, v39, v40, v41, v42 => cond (decide (v42 < v41)) ((at? v39 v42).bind fun b45 => (I_isService k2 b45).bind fun r46 => cond (!r46) (some false) ((I_areAll__impl_isService.l2 k2) v39 v40 v41 (IntKind.i64.wrap (v42 + 1)))) (some (decide ((v39.length : Int) ≤ v40)))
def I_areAll__impl_isService (k : Nat) (a0 : List Int) (a1 : Int) : Option Bool := I_areAll__impl_isService.l2 k a0 a1 (a0.length : Int) 0
theorem I_areAll__impl_isService_gives (k : Nat) (g0 : Bool) (a0 : List Int) (a1 : Int) (r : Bool) (H : I_areAll__impl_isService k a0 a1 = some r) : Gives Tryz.prog 189 [V.one (Cell.sl g0 (List.map eI a0)), V.one (cI a1), V.one (Cell.clo 100 [])] [] [V.one (cL r)] [] := by
 refine Gives.intro func189 rfl rfl rfl rfl ?_; refine fx fun w0 T S0 ob oh hm => ?_
 have hF := fxe w0 T S0 24 ob oh
 unfold I_areAll__impl_isService at H; obtain ⟨K, hK⟩ := leK k; refine sg 1 ?_; refine WpC.seq (sr ?_); refine mv ?_; refine L.lenR (xs := a0) (e := eI) underlying24 hF rfl rfl rfl rfl ?_; refine gn 1 ?_; refine WpC.block ?_; refine WpC.loopL (P := Tryz.prog) (fun n σ => ∃ (v39 : List Int) (v40 v41 v42 : Int), n ≤ K ∧ I_areAll__impl_isService.l2 n v39 v40 v41 v42 = some r ∧ σ = mkSt [(0, MG.one (Cell.sl g0 (List.map eI v39))), (1, oI v40), (2, MG.one (Cell.clo 100 [])), (9, MG.one (Cell.sl g0 (List.map eI v39))), (10, oI v41), (11, oI v42)] [] [] 0) k ⟨_, ⟨a0, a1, (a0.length : Int), 0, by omega, H, rfl⟩, lm [] hm⟩ ?_; clear H
 rintro k2 _ ⟨v39, v40, v41, v42, hk2, H, rfl⟩
 cases k2 with
 | zero => cases H
 | succ k2 =>
  rw [I_areAll__impl_isService.l2] at H
  refine sg 1 ?_; refine WpC.seq ?_; refine cd H (fun hc H => ?_) (fun hc H => ?_)
  ·refine WpC.skip (WpC.seq (WpC.block (sr ?_))); obtain ⟨b45, hb45, H⟩ := bindS H; refine ix underlying24 info3 hb45 ?_; refine gn 2 ?_; refine sy 2 ?_; refine cB 0 ent100 (g100 k2  b45) H fun r46 H => ?_; refine gn 1 ?_; refine cd H (fun hc H => ?_) (fun hc H => ?_)
   ·refine sg 1 ?_; cases H; exact WpC.ret rt
   ·refine WpC.skip (WpC.regionL ?_); refine gn 2 ?_; exact ⟨k2, _, by omega, ⟨v39, v40, v41, (IntKind.i64.wrap (v42 + 1)), by omega, H, rfl⟩, lm [] hm⟩
  ·refine WpC.exit (sr ?_); refine mv ?_; refine L.lenR (xs := v39) (e := eI) underlying24 hF rfl rfl rfl rfl ?_; refine gn 3 ?_; cases H; exact WpC.ret rt
/-! ### I_acceptOk -/
def I_acceptOk (k : Nat) (a0 : T_Accept) (a1 : Int) : Option Bool := (I_isService k a0.Server).bind fun r6 => cond r6 ((I_isPrincipal k a0.Client).bind fun r7 => cond r7 ((I_within k a0.Leaks 0 a1).bind fun r8 => cond r8 ((I_areAll__impl_isRealm k a0.Path 6).bind fun r9 => cond r9 ((I_areAll__impl_isService k a0.Via 4).bind fun r10 => some r10) (some false)) (some false)) (some false)) (some false)
theorem ent173 : MG.Enters Tryz.prog 173 := en func173
theorem g173 (k : Nat) (g0 g1 : Bool) (a0 : T_Accept) (a1 : Int) (r : Bool) (H : I_acceptOk k a0 a1 = some r) : Gives Tryz.prog 173 [V.agg (bT_Accept g0 g1 a0), V.one (cI a1)] [] [V.one (cL r)] [] := by
 refine Gives.intro func173 rfl rfl rfl rfl ?_; refine fx fun w0 T S0 ob oh hm => ?_
 have hF := fxe w0 T S0 29 ob oh
 unfold I_acceptOk at H; obtain ⟨K, hK⟩ := leK k; refine sr ?_; refine bo 16 ?_; refine gn 1 ?_; refine sy 2 ?_; refine cB 17 ent100 (g100 k  a0.Server) H fun r6 H => ?_; refine mv ?_; refine sH H (fun hc H => ?_) (fun hc H => ?_)
 ·refine go 2 ?_; refine cB 18 ent67 (g67 k  a0.Client) H fun r7 H => ?_; refine go 2 ?_; refine sH H (fun hc H => ?_) (fun hc H => ?_)
  ·refine go 3 ?_; refine cB 19 ent66 (g66 k  a0.Leaks 0 a1) H fun r8 H => ?_; refine go 2 ?_; refine sH H (fun hc H => ?_) (fun hc H => ?_)
   ·refine go 2 ?_; refine cB 20 ent189 (g189 k g0 a0.Path 6) H fun r9 H => ?_; refine go 2 ?_; refine sH H (fun hc H => ?_) (fun hc H => ?_)
    ·refine go 2 ?_; refine cB 21 ent189 (I_areAll__impl_isService_gives k g1 a0.Via 4) H fun r10 H => ?_; refine gn 2 ?_; cases H; exact WpC.ret rt
    ·refine gn 5 ?_; cases H; exact WpC.ret rt
   ·refine gn 10 ?_; cases H; exact WpC.ret rt
  ·refine gn 16 ?_; cases H; exact WpC.ret rt
 ·refine gn 21 ?_; cases H; exact WpC.ret rt
/-! ### I_WorldOk_1 -/
def I_WorldOk_1 (k : Nat) (a0 : List UInt8) : Option Bool := (I_TermOk k a0).bind fun r1 => some (!r1)
theorem ent175 : MG.Enters Tryz.prog 175 := en func175
theorem g175 (k : Nat) (a0 : List UInt8) (r : Bool) (H : I_WorldOk_1 k a0 = some r) : Gives Tryz.prog 175 [V.one (cS a0)] [] [V.one (cL r)] [] := by
 refine Gives.intro func175 rfl rfl rfl rfl ?_; refine fx fun w0 T S0 ob oh hm => ?_
 have hF := fxe w0 T S0 6 ob oh
 unfold I_WorldOk_1 at H; obtain ⟨K, hK⟩ := leK k; refine sg 1 ?_; refine sy 1 ?_; refine cB 1 ent144 (g144 k  a0) H fun r1 H => ?_; refine gn 2 ?_; cases H; exact WpC.ret rt
/-! ### V_IndexFunc_string__impl_WorldOk_1 -/
def V_IndexFunc_string__impl_WorldOk_1.l2 : Nat → (List (List UInt8)) → Int → Int → Option Int
 | 0, _, _, _ => none
 | k2 + 1, v34, v35, v36 => cond (decide (v36 < v35)) ((at? v34 v36).bind fun b39 => (I_WorldOk_1 k2 b39).bind fun r40 => cond r40 (some v36) ((V_IndexFunc_string__impl_WorldOk_1.l2 k2) v34 v35 (IntKind.i64.wrap (v36 + 1)))) (some (-1))
def V_IndexFunc_string__impl_WorldOk_1 (k : Nat) (a0 : List (List UInt8)) : Option Int := V_IndexFunc_string__impl_WorldOk_1.l2 k a0 (a0.length : Int) 0
theorem ent247 : MG.Enters Tryz.prog 247 := en func247
theorem g247 (k : Nat) (g0 : Bool) (a0 : List (List UInt8)) (r : Int) (H : V_IndexFunc_string__impl_WorldOk_1 k a0 = some r) : Gives Tryz.prog 247 [V.one (Cell.sl g0 (List.map eS a0)), V.one (Cell.clo 175 [])] [] [V.one (cI r)] [] := by
 refine Gives.intro func247 rfl rfl rfl rfl ?_; refine fx fun w0 T S0 ob oh hm => ?_
 have hF := fxe w0 T S0 19 ob oh
 unfold V_IndexFunc_string__impl_WorldOk_1 at H; obtain ⟨K, hK⟩ := leK k; refine sg 1 ?_; refine WpC.seq (sr ?_); refine mv ?_; refine L.lenR (xs := a0) (e := eS) underlying34 hF rfl rfl rfl rfl ?_; refine gn 1 ?_; refine WpC.block ?_; refine WpC.loopL (P := Tryz.prog) (fun n σ => ∃ (v34 : List (List UInt8)) (v35 v36 : Int), n ≤ K ∧ V_IndexFunc_string__impl_WorldOk_1.l2 n v34 v35 v36 = some r ∧ σ = mkSt [(0, MG.one (Cell.sl g0 (List.map eS v34))), (1, MG.one (Cell.clo 175 [])), (7, oI v35), (8, oI v36)] [] [] 0) k ⟨_, ⟨a0, (a0.length : Int), 0, by omega, H, rfl⟩, lm [] hm⟩ ?_; clear H
 rintro k2 _ ⟨v34, v35, v36, hk2, H, rfl⟩
 cases k2 with
 | zero => cases H
 | succ k2 =>
  rw [V_IndexFunc_string__impl_WorldOk_1.l2] at H
  refine sg 1 ?_; refine WpC.seq ?_; refine cd H (fun hc H => ?_) (fun hc H => ?_)
  ·refine WpC.skip (WpC.seq (WpC.block (sr ?_))); refine gn 2 ?_; refine sy 3 ?_; obtain ⟨b39, hb39, H⟩ := bindS H; refine ix underlying34 info9 hb39 ?_; refine le shape9 ?_; refine cB 0 ent175 (g175 k2  b39) H fun r40 H => L.nil ?_; refine cd H (fun hc H => ?_) (fun hc H => ?_)
   ·refine sg 2 ?_; cases H; exact WpC.ret rt
   ·refine WpC.skip (WpC.regionL ?_); refine gn 2 ?_; exact ⟨k2, _, by omega, ⟨v34, v35, (IntKind.i64.wrap (v36 + 1)), by omega, H, rfl⟩, lm [] hm⟩
  ·refine WpC.exit (sr ?_); refine gn 1 ?_; cases H; exact WpC.ret rt
/-! ### V_ContainsFunc_string__impl_WorldOk_1 -/
def V_ContainsFunc_string__impl_WorldOk_1 (k : Nat) (a0 : List (List UInt8)) : Option Bool := (V_IndexFunc_string__impl_WorldOk_1 k a0).bind fun r1 => some (decide (r1 ≥ 0))
theorem ent174 : MG.Enters Tryz.prog 174 := en func174
theorem g174 (k : Nat) (g0 : Bool) (a0 : List (List UInt8)) (r : Bool) (H : V_ContainsFunc_string__impl_WorldOk_1 k a0 = some r) : Gives Tryz.prog 174 [V.one (Cell.sl g0 (List.map eS a0)), V.one (Cell.clo 175 [])] [] [V.one (cL r)] [] := by
 refine Gives.intro func174 rfl rfl rfl rfl ?_; refine fx fun w0 T S0 ob oh hm => ?_
 have hF := fxe w0 T S0 9 ob oh
 unfold V_ContainsFunc_string__impl_WorldOk_1 at H; obtain ⟨K, hK⟩ := leK k; refine sg 1 ?_; refine sy 2 ?_; refine cB 2 ent247 (g247 k g0 a0) H fun r1 H => ?_; refine gn 2 ?_; cases H; exact WpC.ret rt
/-! ### I_ConfigOk_1 -/
def I_ConfigOk_1 (k : Nat) (a0 : T_Pair) : Option Bool := (I_isRealm k a0.A).bind fun r3 => cond r3 ((I_isRealm k a0.B).bind fun r4 => cond r4 (some (a0.A != a0.B)) (some false)) (some false)
theorem ent186 : MG.Enters Tryz.prog 186 := en func186
theorem g186 (k : Nat) (a0 : T_Pair) (r : Bool) (H : I_ConfigOk_1 k a0 = some r) : Gives Tryz.prog 186 [V.agg [cI a0.A, cI a0.B]] [] [V.one (cL r)] [] := by
 refine Gives.intro func186 rfl rfl rfl rfl ?_; refine fx fun w0 T S0 ob oh hm => ?_
 have hF := fxe w0 T S0 18 ob oh
 unfold I_ConfigOk_1 at H; obtain ⟨K, hK⟩ := leK k; refine sr ?_; refine bo 2 ?_; refine gn 1 ?_; refine sy 2 ?_; refine cB 3 ent187 (g187 k  a0.A) H fun r3 H => ?_; refine mv ?_; refine sH H (fun hc H => ?_) (fun hc H => ?_)
 ·refine go 2 ?_; refine cB 4 ent187 (g187 k  a0.B) H fun r4 H => ?_; refine go 2 ?_; refine sH H (fun hc H => ?_) (fun hc H => ?_)
  ·refine gn 7 ?_; cases H; exact WpC.ret rt
  ·refine gn 7 ?_; cases H; exact WpC.ret rt
 ·refine gn 12 ?_; cases H; exact WpC.ret rt
/-! ### V_Index_Pair -/
def V_Index_Pair.l2 : Nat → (List T_Pair) → Int → Int → T_Pair → Option Int
 | 0, _, _, _, _ => none
 | k2 + 1, v29, v30, v31, v32 => cond (decide (v31 < v30)) ((at? v29 v31).bind fun b34 => cond ((v32.A == b34.A) && ((v32.B == b34.B) && true)) (some v31) ((V_Index_Pair.l2 k2) v29 v30 (IntKind.i64.wrap (v31 + 1)) v32)) (some (-1))
def V_Index_Pair (k : Nat) (a0 : List T_Pair) (a1 : T_Pair) : Option Int := V_Index_Pair.l2 k a0 (a0.length : Int) 0 a1
theorem ent254 : MG.Enters Tryz.prog 254 := en func254
theorem g254 (k : Nat) (g0 : Bool) (a0 : List T_Pair) (a1 : T_Pair) (r : Int) (H : V_Index_Pair k a0 a1 = some r) : Gives Tryz.prog 254 [V.one (Cell.sl g0 (List.map eT_Pair a0)), V.agg [cI a1.A, cI a1.B]] [] [V.one (cI r)] [] := by
 refine Gives.intro func254 rfl rfl rfl rfl ?_; refine fx fun w0 T S0 ob oh hm => ?_
 have hF := fxe w0 T S0 19 ob oh
 unfold V_Index_Pair at H; obtain ⟨K, hK⟩ := leK k; refine sr ?_; refine bo 3 ?_; refine gn 1 ?_; refine WpC.seq (sr ?_); refine mv ?_; refine L.lenR (xs := a0) (e := eT_Pair) underlying25 hF rfl rfl rfl rfl ?_; refine gn 1 ?_; refine WpC.block ?_; refine WpC.loopL (P := Tryz.prog) (fun n σ => ∃ (v29 : List T_Pair) (v30 v31 : Int) (v32 : T_Pair), n ≤ K ∧ V_Index_Pair.l2 n v29 v30 v31 v32 = some r ∧ σ = mkSt [(0, MG.one (Cell.sl g0 (List.map eT_Pair v29))), (3, oP 0 0), (7, oI v30), (8, oI v31)] [] [(0, [cI v32.A, cI v32.B])] 1) k ⟨_, ⟨a0, (a0.length : Int), 0, a1, by omega, H, rfl⟩, lm [(0, 3)] hm⟩ ?_; clear H
 rintro k2 _ ⟨v29, v30, v31, v32, hk2, H, rfl⟩
 cases k2 with
 | zero => cases H
 | succ k2 =>
  rw [V_Index_Pair.l2] at H
  refine sg 1 ?_; refine WpC.seq ?_; refine cd H (fun hc H => ?_) (fun hc H => ?_)
  ·refine WpC.skip (WpC.seq (WpC.block (sr ?_))); refine gn 2 ?_; refine WpC.seq ?_; refine S.begin mixed (by kernel_rfl) ?_; refine S.st 0 rfl rfl (Qu.load) (fun Q0 k0 => lp shape161 (L.nil k0)) ?_; refine S.st 1 rfl rfl ((Ca.move).quiet) (fun Q0 k0 => mv (L.nil k0)) ?_; refine S.st 2 rfl rfl ((Ca.move).quiet) (fun Q0 k0 => mv (L.nil k0)) ?_; obtain ⟨b34, hb34, H⟩ := bindS H; refine S.st 3 rfl rfl ((Ca.indexAddr).quiet) (fun Q0 k0 => ix underlying25 info161 hb34 (L.nil k0)) ?_; refine S.st 4 rfl rfl (Qu.load) (fun Q0 k0 => le shape161 (L.nil k0)) ?_; refine S.st 5 rfl rfl ((Ca.eqA (r := ((v32.A == b34.A) && ((v32.B == b34.B) && true))) rfl rfl rfl rfl (by kernel_rfl) (by kernel_rfl)).quiet) (fun Q0 k0 => L.eqA (r := ((v32.A == b34.A) && ((v32.B == b34.B) && true))) hF rfl rfl rfl rfl rfl rfl (by kernel_rfl) (by kernel_rfl) (L.nil k0)) ?_; refine S.nil ?_; refine cd H (fun hc H => ?_) (fun hc H => ?_)
   ·refine sg 2 ?_; cases H; exact WpC.ret rt
   ·refine WpC.skip (WpC.regionL ?_); refine gn 2 ?_; exact ⟨k2, _, by omega, ⟨v29, v30, (IntKind.i64.wrap (v31 + 1)), v32, by omega, H, rfl⟩, lm [(0, 0)] hm⟩
  ·refine WpC.exit (sr ?_); refine gn 1 ?_; cases H; exact WpC.ret rt
/-! ### V_Contains_Pair -/
def V_Contains_Pair (k : Nat) (a0 : List T_Pair) (a1 : T_Pair) : Option Bool := (V_Index_Pair k a0 a1).bind fun r1 => some (decide (r1 ≥ 0))
theorem ent191 : MG.Enters Tryz.prog 191 := en func191
theorem g191 (k : Nat) (g0 : Bool) (a0 : List T_Pair) (a1 : T_Pair) (r : Bool) (H : V_Contains_Pair k a0 a1 = some r) : Gives Tryz.prog 191 [V.one (Cell.sl g0 (List.map eT_Pair a0)), V.agg [cI a1.A, cI a1.B]] [] [V.one (cL r)] [] := by
 refine Gives.intro func191 rfl rfl rfl rfl ?_; refine fx fun w0 T S0 ob oh hm => ?_
 have hF := fxe w0 T S0 9 ob oh
 unfold V_Contains_Pair at H; obtain ⟨K, hK⟩ := leK k; refine sr ?_; refine bo 3 ?_; refine gn 1 ?_; refine sy 2 ?_; refine cB 4 ent254 (g254 k g0 a0 a1) H fun r1 H => ?_; refine gn 2 ?_; cases H; exact WpC.ret rt
/-! ### I_arePairs__impl_ConfigOk_1 -/
def I_arePairs__impl_ConfigOk_1.l2 : Nat → (List T_Pair) → Int → Int → Option Bool
 | 0, _, _, _ => none
 | k2 + 1, v84, v85, v86 => cond (decide (v86 < v85)) ((at? v84 v86).bind fun b94 => (I_ConfigOk_1 k2 b94).bind fun r98 => cond (!r98) (some false) ((part? v84 0 v86).bind fun b100 => (V_Contains_Pair k2 b100 b94).bind fun r101 => cond r101 (some false) ((I_arePairs__impl_ConfigOk_1.l2 k2) v84 v85 (IntKind.i64.wrap (v86 + 1))))) (some (decide ((v84.length : Int) ≤ 6)))
def I_arePairs__impl_ConfigOk_1 (k : Nat) (a0 : List T_Pair) : Option Bool := I_arePairs__impl_ConfigOk_1.l2 k a0 (a0.length : Int) 0
theorem ent185 : MG.Enters Tryz.prog 185 := en func185
theorem g185 (k : Nat) (g0 : Bool) (a0 : List T_Pair) (r : Bool) (H : I_arePairs__impl_ConfigOk_1 k a0 = some r) : Gives Tryz.prog 185 [V.one (Cell.sl g0 (List.map eT_Pair a0)), V.one (Cell.clo 186 [])] [] [V.one (cL r)] [] := by
 refine Gives.intro func185 rfl rfl rfl rfl ?_; refine fx fun w0 T S0 ob oh hm => ?_
 have hF := fxe w0 T S0 29 ob oh
 unfold I_arePairs__impl_ConfigOk_1 at H; obtain ⟨K, hK⟩ := leK k; refine sg 1 ?_; refine WpC.seq (sr ?_); refine mv ?_; refine L.lenR (xs := a0) (e := eT_Pair) underlying25 hF rfl rfl rfl rfl ?_; refine gn 1 ?_; refine WpC.block ?_; refine WpC.loopL (P := Tryz.prog) (fun n σ => ∃ (v84 : List T_Pair) (v85 v86 : Int), n ≤ K ∧ I_arePairs__impl_ConfigOk_1.l2 n v84 v85 v86 = some r ∧ σ = mkSt [(0, MG.one (Cell.sl g0 (List.map eT_Pair v84))), (1, MG.one (Cell.clo 186 [])), (7, MG.one (Cell.sl g0 (List.map eT_Pair v84))), (8, oI v85), (9, oI v86)] [] [] 0) k ⟨_, ⟨a0, (a0.length : Int), 0, by omega, H, rfl⟩, lm [] hm⟩ ?_; clear H
 rintro k2 _ ⟨v84, v85, v86, hk2, H, rfl⟩
 cases k2 with
 | zero => cases H
 | succ k2 =>
  rw [I_arePairs__impl_ConfigOk_1.l2] at H
  refine sg 1 ?_; refine WpC.seq ?_; refine cd H (fun hc H => ?_) (fun hc H => ?_)
  ·refine WpC.skip (WpC.seq (WpC.block (sr ?_))); refine mv ?_; obtain ⟨b94, hb94, H⟩ := bindS H; refine ix underlying25 info161 hb94 ?_; refine le shape161 ?_; refine alc 0 info161 ?_; refine gn 2 ?_; refine WpC.seq ?_; obtain ⟨r98, hr98, H⟩ := bindS H
   rcases Bool.eq_false_or_eq_true ((!r98)) with hc99 | hc99
   ·replace H := condT hc99 H
    refine A.begin mixed rfl rfl ?_; intro W hI hO; refine hI _ _ _ ?_; refine tM 0 ?_; refine A.all [1] (by kernel_rfl) rfl ⟨⟨_, rfl, ?_⟩, trivial⟩; refine gn 1 ?_; refine A.all [2] (by kernel_rfl) rfl ⟨⟨_, rfl, ?_⟩, trivial⟩; refine c0 1 ent186 (g186 k2  b94 r98 hr98) (L.nil ?_); refine Atk 3 rfl (Ca.un rfl rfl) (fun Q0 k0 => nt (L.nil k0)) ?_; refine tM 4 ?_; refine A.le (τ := mkSt [(0, MG.one (Cell.sl g0 (List.map eT_Pair v84))), (1, MG.one (Cell.clo 186 [])), (5, oI v86), (6, oP 0 0), (7, MG.one (Cell.sl g0 (List.map eT_Pair v84))), (8, oI v85), (9, oI v86), (18, oL true)] [] [(0, [cI b94.A, cI b94.B])] 1) (Le.mk [(0, 0)] hm rfl (Sa4 (Sa2 (Sa1 (Sa1 trivial rfl (congrArg (fun b => some (MG.one (cL b))) hc99))))) trivial (Ba1 trivial)) ?_; refine tO 5 ?_; refine tO 6 ?_; refine tO 7 ?_; refine tO 8 ?_; refine A.all [9] (by kernel_rfl) rfl ⟨⟨_, rfl, ?_⟩, trivial⟩; refine gn 1 ?_; refine tP 10 ?_; refine A.le (τ := mkSt [(0, MG.one (Cell.sl g0 (List.map eT_Pair v84))), (1, MG.one (Cell.clo 186 [])), (7, MG.one (Cell.sl g0 (List.map eT_Pair v84))), (8, oI v85), (9, oI v86), (24, oL true)] [] [] 0) (lm [] hm) ?_; refine A.done (by kernel_rfl) ?_; refine cT ?_
    refine sg 1 ?_; cases H; exact WpC.ret rt
   ·replace H := condF hc99 H
    obtain ⟨b100, hb100, H⟩ := bindS H; obtain ⟨r101, hr101, H⟩ := bindS H; refine A.begin mixed rfl rfl ?_; intro W hI hO; refine hI _ _ _ ?_; refine tM 0 ?_; refine A.all [1] (by kernel_rfl) rfl ⟨⟨_, rfl, ?_⟩, trivial⟩; refine gn 1 ?_; refine A.all [2] (by kernel_rfl) rfl ⟨⟨_, rfl, ?_⟩, trivial⟩; refine c0 1 ent186 (g186 k2  b94 r98 hr98) (L.nil ?_); refine Atk 3 rfl (Ca.un rfl rfl) (fun Q0 k0 => nt (L.nil k0)) ?_; refine tM 4 ?_; refine A.le (τ := mkSt [(0, MG.one (Cell.sl g0 (List.map eT_Pair v84))), (1, MG.one (Cell.clo 186 [])), (5, oI v86), (6, oP 0 0), (7, MG.one (Cell.sl g0 (List.map eT_Pair v84))), (8, oI v85), (9, oI v86), (18, oL false)] [] [(0, [cI b94.A, cI b94.B])] 1) (Le.mk [(0, 0)] hm rfl (Sa4 (Sa2 (Sa1 (Sa1 trivial rfl (congrArg (fun b => some (MG.one (cL b))) hc99))))) trivial (Ba1 trivial)) ?_; refine tM 5 ?_; refine tM 6 ?_; refine Atk 7 rfl (Ca.slice) (fun Q0 k0 => L.cutR (xs := v84) (ys := b100) (e := eT_Pair) underlying25 info161 hF rfl rfl rfl rfl rfl hb100 (fun _ => rfl) (L.nil k0)) ?_; refine A.all [8] (by kernel_rfl) rfl ⟨⟨_, rfl, ?_⟩, trivial⟩; refine gn 1 ?_; refine A.all [9] (by kernel_rfl) rfl ⟨⟨_, rfl, ?_⟩, trivial⟩
    refine c0 1 ent191 (g191 k2 g0 b100 b94 r101 hr101) (L.nil ?_); refine tP 10 ?_; refine A.le (τ := mkSt [(0, MG.one (Cell.sl g0 (List.map eT_Pair v84))), (1, MG.one (Cell.clo 186 [])), (7, MG.one (Cell.sl g0 (List.map eT_Pair v84))), (8, oI v85), (9, oI v86), (24, oL r101)] [] [] 0) (lm [] hm) ?_; refine A.done (by kernel_rfl) ?_; refine cd H (fun hc H => ?_) (fun hc H => ?_)
    ·refine sg 1 ?_; cases H; exact WpC.ret rt
    ·refine WpC.skip (WpC.regionL ?_); refine gn 2 ?_; exact ⟨k2, _, by omega, ⟨v84, v85, (IntKind.i64.wrap (v86 + 1)), by omega, H, rfl⟩, lm [] hm⟩
  ·refine WpC.exit (sr ?_); refine mv ?_; refine L.lenR (xs := v84) (e := eT_Pair) underlying25 hF rfl rfl rfl rfl ?_; refine gn 2 ?_; cases H; exact WpC.ret rt
/-! ### I_ConfigOk_2 -/
def I_ConfigOk_2 (k : Nat) (a0 : T_Pair) : Option Bool := (I_isService k a0.A).bind fun r3 => cond r3 ((I_isService k a0.B).bind fun r4 => some r4) (some false)
theorem ent188 : MG.Enters Tryz.prog 188 := en func188
theorem g188 (k : Nat) (a0 : T_Pair) (r : Bool) (H : I_ConfigOk_2 k a0 = some r) : Gives Tryz.prog 188 [V.agg [cI a0.A, cI a0.B]] [] [V.one (cL r)] [] := by
 refine Gives.intro func188 rfl rfl rfl rfl ?_; refine fx fun w0 T S0 ob oh hm => ?_
 have hF := fxe w0 T S0 11 ob oh
 unfold I_ConfigOk_2 at H; obtain ⟨K, hK⟩ := leK k; refine sr ?_; refine bo 2 ?_; refine gn 1 ?_; refine sy 2 ?_; refine cB 3 ent100 (g100 k  a0.A) H fun r3 H => ?_; refine mv ?_; refine sH H (fun hc H => ?_) (fun hc H => ?_)
 ·refine go 2 ?_; refine cB 4 ent100 (g100 k  a0.B) H fun r4 H => ?_; refine gn 2 ?_; cases H; exact WpC.ret rt
 ·refine gn 5 ?_; cases H; exact WpC.ret rt
/-! ### I_arePairs__impl_ConfigOk_2 -/
def I_arePairs__impl_ConfigOk_2.l2 : Nat → (List T_Pair) → Int → Int → Option Bool
 | 0, _, _, _ => none
 | k2 + 1, v84, v85, v86 => cond (decide (v86 < v85)) ((at? v84 v86).bind fun b94 => (I_ConfigOk_2 k2 b94).bind fun r98 => cond (!r98) (some false) ((part? v84 0 v86).bind fun b100 => (V_Contains_Pair k2 b100 b94).bind fun r101 => cond r101 (some false) ((I_arePairs__impl_ConfigOk_2.l2 k2) v84 v85 (IntKind.i64.wrap (v86 + 1))))) (some (decide ((v84.length : Int) ≤ 6)))
def I_arePairs__impl_ConfigOk_2 (k : Nat) (a0 : List T_Pair) : Option Bool := I_arePairs__impl_ConfigOk_2.l2 k a0 (a0.length : Int) 0
theorem I_arePairs__impl_ConfigOk_2_gives (k : Nat) (g0 : Bool) (a0 : List T_Pair) (r : Bool) (H : I_arePairs__impl_ConfigOk_2 k a0 = some r) : Gives Tryz.prog 185 [V.one (Cell.sl g0 (List.map eT_Pair a0)), V.one (Cell.clo 188 [])] [] [V.one (cL r)] [] := by
 refine Gives.intro func185 rfl rfl rfl rfl ?_; refine fx fun w0 T S0 ob oh hm => ?_
 have hF := fxe w0 T S0 29 ob oh
 unfold I_arePairs__impl_ConfigOk_2 at H; obtain ⟨K, hK⟩ := leK k; refine sg 1 ?_; refine WpC.seq (sr ?_); refine mv ?_; refine L.lenR (xs := a0) (e := eT_Pair) underlying25 hF rfl rfl rfl rfl ?_; refine gn 1 ?_; refine WpC.block ?_; refine WpC.loopL (P := Tryz.prog) (fun n σ => ∃ (v84 : List T_Pair) (v85 v86 : Int), n ≤ K ∧ I_arePairs__impl_ConfigOk_2.l2 n v84 v85 v86 = some r ∧ σ = mkSt [(0, MG.one (Cell.sl g0 (List.map eT_Pair v84))), (1, MG.one (Cell.clo 188 [])), (7, MG.one (Cell.sl g0 (List.map eT_Pair v84))), (8, oI v85), (9, oI v86)] [] [] 0) k ⟨_, ⟨a0, (a0.length : Int), 0, by omega, H, rfl⟩, lm [] hm⟩ ?_; clear H
 rintro k2 _ ⟨v84, v85, v86, hk2, H, rfl⟩
 cases k2 with
 | zero => cases H
 | succ k2 =>
  rw [I_arePairs__impl_ConfigOk_2.l2] at H
  refine sg 1 ?_; refine WpC.seq ?_; refine cd H (fun hc H => ?_) (fun hc H => ?_)
  ·refine WpC.skip (WpC.seq (WpC.block (sr ?_))); refine mv ?_; obtain ⟨b94, hb94, H⟩ := bindS H; refine ix underlying25 info161 hb94 ?_; refine le shape161 ?_; refine alc 0 info161 ?_; refine gn 2 ?_; refine WpC.seq ?_; obtain ⟨r98, hr98, H⟩ := bindS H
   rcases Bool.eq_false_or_eq_true ((!r98)) with hc99 | hc99
   ·replace H := condT hc99 H
    refine A.begin mixed rfl rfl ?_; intro W hI hO; refine hI _ _ _ ?_; refine tM 0 ?_; refine A.all [1] (by kernel_rfl) rfl ⟨⟨_, rfl, ?_⟩, trivial⟩; refine gn 1 ?_; refine A.all [2] (by kernel_rfl) rfl ⟨⟨_, rfl, ?_⟩, trivial⟩; refine c0 1 ent188 (g188 k2  b94 r98 hr98) (L.nil ?_); refine Atk 3 rfl (Ca.un rfl rfl) (fun Q0 k0 => nt (L.nil k0)) ?_; refine tM 4 ?_; refine A.le (τ := mkSt [(0, MG.one (Cell.sl g0 (List.map eT_Pair v84))), (1, MG.one (Cell.clo 188 [])), (5, oI v86), (6, oP 0 0), (7, MG.one (Cell.sl g0 (List.map eT_Pair v84))), (8, oI v85), (9, oI v86), (18, oL true)] [] [(0, [cI b94.A, cI b94.B])] 1) (Le.mk [(0, 0)] hm rfl (Sa4 (Sa2 (Sa1 (Sa1 trivial rfl (congrArg (fun b => some (MG.one (cL b))) hc99))))) trivial (Ba1 trivial)) ?_; refine tO 5 ?_; refine tO 6 ?_; refine tO 7 ?_; refine tO 8 ?_; refine A.all [9] (by kernel_rfl) rfl ⟨⟨_, rfl, ?_⟩, trivial⟩; refine gn 1 ?_; refine tP 10 ?_; refine A.le (τ := mkSt [(0, MG.one (Cell.sl g0 (List.map eT_Pair v84))), (1, MG.one (Cell.clo 188 [])), (7, MG.one (Cell.sl g0 (List.map eT_Pair v84))), (8, oI v85), (9, oI v86), (24, oL true)] [] [] 0) (lm [] hm) ?_; refine A.done (by kernel_rfl) ?_; refine cT ?_
    refine sg 1 ?_; cases H; exact WpC.ret rt
   ·replace H := condF hc99 H
    obtain ⟨b100, hb100, H⟩ := bindS H; obtain ⟨r101, hr101, H⟩ := bindS H; refine A.begin mixed rfl rfl ?_; intro W hI hO; refine hI _ _ _ ?_; refine tM 0 ?_; refine A.all [1] (by kernel_rfl) rfl ⟨⟨_, rfl, ?_⟩, trivial⟩; refine gn 1 ?_; refine A.all [2] (by kernel_rfl) rfl ⟨⟨_, rfl, ?_⟩, trivial⟩; refine c0 1 ent188 (g188 k2  b94 r98 hr98) (L.nil ?_); refine Atk 3 rfl (Ca.un rfl rfl) (fun Q0 k0 => nt (L.nil k0)) ?_; refine tM 4 ?_; refine A.le (τ := mkSt [(0, MG.one (Cell.sl g0 (List.map eT_Pair v84))), (1, MG.one (Cell.clo 188 [])), (5, oI v86), (6, oP 0 0), (7, MG.one (Cell.sl g0 (List.map eT_Pair v84))), (8, oI v85), (9, oI v86), (18, oL false)] [] [(0, [cI b94.A, cI b94.B])] 1) (Le.mk [(0, 0)] hm rfl (Sa4 (Sa2 (Sa1 (Sa1 trivial rfl (congrArg (fun b => some (MG.one (cL b))) hc99))))) trivial (Ba1 trivial)) ?_; refine tM 5 ?_; refine tM 6 ?_; refine Atk 7 rfl (Ca.slice) (fun Q0 k0 => L.cutR (xs := v84) (ys := b100) (e := eT_Pair) underlying25 info161 hF rfl rfl rfl rfl rfl hb100 (fun _ => rfl) (L.nil k0)) ?_; refine A.all [8] (by kernel_rfl) rfl ⟨⟨_, rfl, ?_⟩, trivial⟩; refine gn 1 ?_; refine A.all [9] (by kernel_rfl) rfl ⟨⟨_, rfl, ?_⟩, trivial⟩
    refine c0 1 ent191 (g191 k2 g0 b100 b94 r101 hr101) (L.nil ?_); refine tP 10 ?_; refine A.le (τ := mkSt [(0, MG.one (Cell.sl g0 (List.map eT_Pair v84))), (1, MG.one (Cell.clo 188 [])), (7, MG.one (Cell.sl g0 (List.map eT_Pair v84))), (8, oI v85), (9, oI v86), (24, oL r101)] [] [] 0) (lm [] hm) ?_; refine A.done (by kernel_rfl) ?_; refine cd H (fun hc H => ?_) (fun hc H => ?_)
    ·refine sg 1 ?_; cases H; exact WpC.ret rt
    ·refine WpC.skip (WpC.regionL ?_); refine gn 2 ?_; exact ⟨k2, _, by omega, ⟨v84, v85, (IntKind.i64.wrap (v86 + 1)), by omega, H, rfl⟩, lm [] hm⟩
  ·refine WpC.exit (sr ?_); refine mv ?_; refine L.lenR (xs := v84) (e := eT_Pair) underlying25 hF rfl rfl rfl rfl ?_; refine gn 2 ?_; cases H; exact WpC.ret rt
/-! ### I_ConfigOk -/
def I_ConfigOk (k : Nat) (a0 : T_Config) : Option Bool := (I_arePairs__impl_ConfigOk_1 k a0.Links).bind fun r1 => (I_arePairs__impl_ConfigOk_2 k a0.Proxy).bind fun r2 => cond r1 (cond r2 (cond ((a0.UserRealm.length : Int) == 3) ((I_areAll__impl_isRealm k a0.UserRealm 3).bind fun r6 => cond r6 (cond ((a0.ServiceRealm.length : Int) == 3) ((I_areAll__impl_isRealm k a0.ServiceRealm 3).bind fun r7 => cond r7 ((I_within k a0.Skew 0 20).bind fun r8 => some r8) (some false)) (some false)) (some false)) (some false)) (some false)) (some false)
theorem ent99 : MG.Enters Tryz.prog 99 := en func99
theorem g99 (k : Nat) (g0 g1 g2 g3 : Bool) (a0 : T_Config) (r : Bool) (H : I_ConfigOk k a0 = some r) : Gives Tryz.prog 99 [V.agg (bT_Config g0 g1 g2 g3 a0)] [] [V.one (cL r)] [] := by
 refine Gives.intro func99 rfl rfl rfl rfl ?_; refine fx fun w0 T S0 ob oh hm => ?_
 have hF := fxe w0 T S0 42 ob oh
 unfold I_ConfigOk at H; obtain ⟨K, hK⟩ := leK k; refine sr ?_; refine bo 5 ?_; refine gn 1 ?_; refine sy 2 ?_; refine cB 6 ent185 (g185 k g2 a0.Links) H fun r1 H => ?_; refine gn 1 ?_; refine sy 2 ?_; refine cB 7 ent185 (I_arePairs__impl_ConfigOk_2_gives k g3 a0.Proxy) H fun r2 H => ?_; refine gn 1 ?_; refine sy 2 ?_; refine sH H (fun hc H => ?_) (fun hc H => ?_)
 ·refine go 3 ?_; refine sH H (fun hc H => ?_) (fun hc H => ?_)
  ·refine go 2 ?_; refine L.lenR (xs := a0.UserRealm) (e := eI) underlying24 hF rfl rfl rfl rfl ?_; refine go 3 ?_; refine sH H (fun hc H => ?_) (fun hc H => ?_)
   ·refine go 2 ?_; refine cB 8 ent189 (g189 k g0 a0.UserRealm 3) H fun r6 H => ?_; refine go 2 ?_; refine sH H (fun hc H => ?_) (fun hc H => ?_)
    ·refine go 2 ?_; refine L.lenR (xs := a0.ServiceRealm) (e := eI) underlying24 hF rfl rfl rfl rfl ?_; refine go 3 ?_; refine sH H (fun hc H => ?_) (fun hc H => ?_)
     ·refine go 2 ?_; refine cB 9 ent189 (g189 k g1 a0.ServiceRealm 3) H fun r7 H => ?_; refine go 2 ?_; refine sH H (fun hc H => ?_) (fun hc H => ?_)
      ·refine go 2 ?_; refine cB 10 ent66 (g66 k  a0.Skew 0 20) H fun r8 H => ?_; refine gn 2 ?_; cases H; exact WpC.ret rt
      ·refine gn 5 ?_; cases H; exact WpC.ret rt
     ·refine gn 10 ?_; cases H; exact WpC.ret rt
    ·refine gn 16 ?_; cases H; exact WpC.ret rt
   ·refine gn 21 ?_; cases H; exact WpC.ret rt
  ·refine gn 27 ?_; cases H; exact WpC.ret rt
 ·refine gn 30 ?_; cases H; exact WpC.ret rt
/-! ### V_Index_string -/
def V_Index_string.l2 : Nat → (List (List UInt8)) → (List UInt8) → Int → Int → Option Int
 | 0, _, _, _, _ => none
 | k2 + 1, v29, v30, v31, v32 => cond (decide (v32 < v31)) ((at? v29 v32).bind fun b34 => cond (v30 == b34) (some v32) ((V_Index_string.l2 k2) v29 v30 v31 (IntKind.i64.wrap (v32 + 1)))) (some (-1))
def V_Index_string (k : Nat) (a0 : List (List UInt8)) (a1 : List UInt8) : Option Int := V_Index_string.l2 k a0 a1 (a0.length : Int) 0
theorem ent218 : MG.Enters Tryz.prog 218 := en func218
theorem g218 (k : Nat) (g0 : Bool) (a0 : List (List UInt8)) (a1 : List UInt8) (r : Int) (H : V_Index_string k a0 a1 = some r) : Gives Tryz.prog 218 [V.one (Cell.sl g0 (List.map eS a0)), V.one (cS a1)] [] [V.one (cI r)] [] := by
 refine Gives.intro func218 rfl rfl rfl rfl ?_; refine fx fun w0 T S0 ob oh hm => ?_
 have hF := fxe w0 T S0 19 ob oh
 unfold V_Index_string at H; obtain ⟨K, hK⟩ := leK k; refine sg 1 ?_; refine WpC.seq (sr ?_); refine mv ?_; refine L.lenR (xs := a0) (e := eS) underlying34 hF rfl rfl rfl rfl ?_; refine gn 1 ?_; refine WpC.block ?_; refine WpC.loopL (P := Tryz.prog) (fun n σ => ∃ (v29 : List (List UInt8)) (v30 : List UInt8) (v31 v32 : Int), n ≤ K ∧ V_Index_string.l2 n v29 v30 v31 v32 = some r ∧ σ = mkSt [(0, MG.one (Cell.sl g0 (List.map eS v29))), (1, oS v30), (7, oI v31), (8, oI v32)] [] [] 0) k ⟨_, ⟨a0, a1, (a0.length : Int), 0, by omega, H, rfl⟩, lm [] hm⟩ ?_; clear H
 rintro k2 _ ⟨v29, v30, v31, v32, hk2, H, rfl⟩
 cases k2 with
 | zero => cases H
 | succ k2 =>
  rw [V_Index_string.l2] at H
  refine sg 1 ?_; refine WpC.seq ?_; refine cd H (fun hc H => ?_) (fun hc H => ?_)
  ·refine WpC.skip (WpC.seq (WpC.block (sr ?_))); refine gn 2 ?_; refine sy 3 ?_; obtain ⟨b34, hb34, H⟩ := bindS H; refine ix underlying34 info9 hb34 ?_; refine le shape9 ?_; refine L.binS hF rfl rfl rfl rfl rfl (L.nil ?_); refine cd H (fun hc H => ?_) (fun hc H => ?_)
   ·refine sg 2 ?_; cases H; exact WpC.ret rt
   ·refine WpC.skip (WpC.regionL ?_); refine gn 2 ?_; exact ⟨k2, _, by omega, ⟨v29, v30, v31, (IntKind.i64.wrap (v32 + 1)), by omega, H, rfl⟩, lm [] hm⟩
  ·refine WpC.exit (sr ?_); refine gn 1 ?_; cases H; exact WpC.ret rt
/-! ### V_Contains_string -/
def V_Contains_string (k : Nat) (a0 : List (List UInt8)) (a1 : List UInt8) : Option Bool := (V_Index_string k a0 a1).bind fun r1 => some (decide (r1 ≥ 0))
theorem ent145 : MG.Enters Tryz.prog 145 := en func145
theorem g145 (k : Nat) (g0 : Bool) (a0 : List (List UInt8)) (a1 : List UInt8) (r : Bool) (H : V_Contains_string k a0 a1 = some r) : Gives Tryz.prog 145 [V.one (Cell.sl g0 (List.map eS a0)), V.one (cS a1)] [] [V.one (cL r)] [] := by
 refine Gives.intro func145 rfl rfl rfl rfl ?_; refine fx fun w0 T S0 ob oh hm => ?_
 have hF := fxe w0 T S0 9 ob oh
 unfold V_Contains_string at H; obtain ⟨K, hK⟩ := leK k; refine sg 1 ?_; refine sy 2 ?_; refine cB 2 ent218 (g218 k g0 a0 a1) H fun r1 H => ?_; refine gn 2 ?_; cases H; exact WpC.ret rt
/-! ### I_rises -/
def I_rises.l2 : Nat → (List Int) → Int → Option Bool
 | 0, _, _ => none
 | k2 + 1, v29, v30 => cond (decide (v30 < (v29.length : Int))) ((at? v29 (IntKind.i64.wrap (v30 - 1))).bind fun b33 => (at? v29 v30).bind fun b34 => cond (decide (b33 ≥ b34)) (some false) ((I_rises.l2 k2) v29 (IntKind.i64.wrap (v30 + 1)))) (some true)
def I_rises (k : Nat) (a0 : List Int) : Option Bool := I_rises.l2 k a0 1
theorem ent146 : MG.Enters Tryz.prog 146 := en func146
theorem g146 (k : Nat) (g0 : Bool) (a0 : List Int) (r : Bool) (H : I_rises k a0 = some r) : Gives Tryz.prog 146 [V.one (Cell.sl g0 (List.map eI a0))] [] [V.one (cL r)] [] := by
 refine Gives.intro func146 rfl rfl rfl rfl ?_; refine fx fun w0 T S0 ob oh hm => ?_
 have hF := fxe w0 T S0 20 ob oh
 unfold I_rises at H; obtain ⟨K, hK⟩ := leK k; refine sg 1 ?_; refine WpC.seq (sr ?_); refine gn 1 ?_; refine WpC.block ?_; refine WpC.loopL (P := Tryz.prog) (fun n σ => ∃ (v29 : List Int) (v30 : Int), n ≤ K ∧ I_rises.l2 n v29 v30 = some r ∧ σ = mkSt [(0, MG.one (Cell.sl g0 (List.map eI v29))), (3, oI v30)] [] [] 0) k ⟨_, ⟨a0, 1, by omega, H, rfl⟩, lm [] hm⟩ ?_; clear H
 rintro k2 _ ⟨v29, v30, hk2, H, rfl⟩
 cases k2 with
 | zero => cases H
 | succ k2 =>
  rw [I_rises.l2] at H
  refine WpC.seq (sr ?_); refine go 2 ?_; refine L.lenR (xs := v29) (e := eI) underlying24 hF rfl rfl rfl rfl ?_; refine gn 1 ?_; refine cd H (fun hc H => ?_) (fun hc H => ?_)
  ·refine WpC.skip (WpC.seq (WpC.block (WpC.seq ?_))); refine S.begin mixed (by kernel_rfl) ?_; refine S.st 0 rfl rfl ((Ca.move).quiet) (fun Q0 k0 => mv (L.nil k0)) ?_; refine S.st 1 rfl rfl ((Ca.move).quiet) (fun Q0 k0 => mv (L.nil k0)) ?_; refine S.st 2 rfl rfl ((Ca.bin rfl rfl (calm_int _ _ _ _ _ _ _ _)).quiet) (fun Q0 k0 => bi (L.nil k0)) ?_; obtain ⟨b33, hb33, H⟩ := bindS H; refine S.st 3 rfl rfl ((Ca.indexAddr).quiet) (fun Q0 k0 => ix underlying24 info3 hb33 (L.nil k0)) ?_; refine S.st 4 rfl rfl (Qu.load) (fun Q0 k0 => le shape3 (L.nil k0)) ?_; refine S.st 5 rfl rfl ((Ca.move).quiet) (fun Q0 k0 => mv (L.nil k0)) ?_; refine S.st 6 rfl rfl ((Ca.move).quiet) (fun Q0 k0 => mv (L.nil k0)) ?_; obtain ⟨b34, hb34, H⟩ := bindS H; refine S.st 7 rfl rfl ((Ca.indexAddr).quiet) (fun Q0 k0 => ix underlying24 info3 hb34 (L.nil k0)) ?_; refine S.st 8 rfl rfl (Qu.load) (fun Q0 k0 => le shape3 (L.nil k0)) ?_; refine S.st 9 rfl rfl ((Ca.bin rfl rfl (calm_int _ _ _ _ _ _ _ _)).quiet) (fun Q0 k0 => bi (L.nil k0)) ?_; refine S.nil ?_; refine cd H (fun hc H => ?_) (fun hc H => ?_)
   ·refine sg 1 ?_; cases H; exact WpC.ret rt
   ·refine WpC.skip (WpC.regionL ?_); refine gn 3 ?_; exact ⟨k2, _, by omega, ⟨v29, (IntKind.i64.wrap (v30 + 1)), by omega, H, rfl⟩, lm [] hm⟩
  ·refine WpC.exit (sr ?_); refine gn 1 ?_; cases H; exact WpC.ret rt
/-! ### I_KnownOk -/
def I_KnownOk.l4 : Nat → T_Known → Int → Int → Option Bool
 | 0, _, _, _ => none
 | k4 + 1, v134, v135, v136 => cond (decide (v136 < v135)) ((at? v134.Keys v136).bind fun b139 => (I_isKey k4 b139).bind fun r140 => cond (!r140) (some false) ((I_KnownOk.l4 k4) v134 v135 (IntKind.i64.wrap (v136 + 1)))) (cond (decide ((v134.Terms.length : Int) ≤ 60)) (cond (decide ((v134.Keys.length : Int) ≤ 40)) ((I_rises k4 v134.Keys).bind fun r142 => some r142) (some false)) (some false))
def I_KnownOk.l2 : Nat → T_Known → Int → Int → Option Bool
 | 0, _, _, _ => none
 | k2 + 1, v84, v85, v86 => cond (decide (v86 < v85)) ((at? v84.Terms v86).bind fun b94 => (I_TermOk k2 b94).bind fun r98 => cond (!r98) (some false) ((part? v84.Terms 0 v86).bind fun b99 => (V_Contains_string k2 b99 b94).bind fun r100 => cond r100 (some false) ((I_KnownOk.l2 k2) v84 v85 (IntKind.i64.wrap (v86 + 1))))) (I_KnownOk.l4 k2 v84 (v84.Keys.length : Int) 0)
def I_KnownOk (k : Nat) (a0 : T_Known) : Option Bool := I_KnownOk.l2 k a0 (a0.Terms.length : Int) 0
theorem ent60 : MG.Enters Tryz.prog 60 := en func60
theorem g60 (k : Nat) (g0 g1 : Bool) (a0 : T_Known) (r : Bool) (H : I_KnownOk k a0 = some r) : Gives Tryz.prog 60 [V.agg [Cell.sl g0 (List.map eS a0.Terms), Cell.sl g1 (List.map eI a0.Keys)]] [] [V.one (cL r)] [] := by
 refine Gives.intro func60 rfl rfl rfl rfl ?_; refine fx fun w0 T S0 ob oh hm => ?_
 have hF := fxe w0 T S0 53 ob oh
 unfold I_KnownOk at H; obtain ⟨K, hK⟩ := leK k; refine sr ?_; refine bo 2 ?_; refine gn 1 ?_; refine WpC.seq (sr ?_); refine go 2 ?_; refine L.lenR (xs := a0.Terms) (e := eS) underlying34 hF rfl rfl rfl rfl ?_; refine gn 1 ?_; refine WpC.block ?_; refine WpC.loopL (P := Tryz.prog) (fun n σ => ∃ (v84 : T_Known) (v85 v86 : Int), n ≤ K ∧ I_KnownOk.l2 n v84 v85 v86 = some r ∧ σ = mkSt [(1, oP 0 0), (8, MG.one (Cell.sl g0 (List.map eS v84.Terms))), (9, oI v85), (10, oI v86)] [] [(0, [Cell.sl g0 (List.map eS v84.Terms), Cell.sl g1 (List.map eI v84.Keys)])] 1) k ⟨_, ⟨a0, (a0.Terms.length : Int), 0, by omega, H, rfl⟩, lm [(0, 2)] hm⟩ ?_; clear H
 rintro k2 _ ⟨v84, v85, v86, hk2, H, rfl⟩
 cases k2 with
 | zero => cases H
 | succ k2 =>
  rw [I_KnownOk.l2] at H
  refine sg 1 ?_; refine WpC.seq ?_; refine cd H (fun hc H => ?_) (fun hc H => ?_)
  ·refine WpC.skip (WpC.seq (WpC.block (sr ?_))); refine mv ?_; obtain ⟨b94, hb94, H⟩ := bindS H; refine ix underlying34 info9 hb94 ?_; refine gn 3 ?_; refine sy 1 ?_; refine cB 1 ent144 (g144 k2  b94) H fun r98 H => ?_; refine go 2 ?_; refine sH H (fun hc H => ?_) (fun hc H => ?_)
   ·refine gn 7 ?_; refine cT ?_; refine sg 1 ?_; cases H; exact WpC.ret rt
   ·refine go 3 ?_; obtain ⟨b99, hb99, H⟩ := bindS H; refine L.cutR (xs := v84.Terms) (ys := b99) (e := eS) underlying34 info9 hF rfl rfl rfl rfl rfl hb99 (fun _ => rfl) ?_; refine mv ?_; refine cB 2 ent145 (g145 k2 g0 b99 b94) H fun r100 H => ?_; refine gn 1 ?_; refine cd H (fun hc H => ?_) (fun hc H => ?_)
    ·refine sg 1 ?_; cases H; exact WpC.ret rt
    ·refine WpC.skip (WpC.regionL ?_); refine gn 2 ?_; exact ⟨k2, _, by omega, ⟨v84, v85, (IntKind.i64.wrap (v86 + 1)), by omega, H, rfl⟩, lm [(0, 0)] hm⟩
  ·refine WpC.exit (WpC.seq (sr ?_)); refine go 2 ?_; refine L.lenR (xs := v84.Keys) (e := eI) underlying24 hF rfl rfl rfl rfl ?_; refine gn 1 ?_; refine WpC.block ?_; refine WpC.loopL (P := Tryz.prog) (fun n σ => ∃ (v134 : T_Known) (v135 v136 : Int), n ≤ K ∧ I_KnownOk.l4 n v134 v135 v136 = some r ∧ σ = mkSt [(1, oP 0 0), (28, MG.one (Cell.sl g1 (List.map eI v134.Keys))), (29, oI v135), (30, oI v136)] [] [(0, [Cell.sl g0 (List.map eS v134.Terms), Cell.sl g1 (List.map eI v134.Keys)])] 1) k2 ⟨_, ⟨v84, (v84.Keys.length : Int), 0, by omega, H, rfl⟩, lm [(0, 0)] hm⟩ ?_; clear H
   rintro k4 _ ⟨v134, v135, v136, hk4, H, rfl⟩
   cases k4 with
   | zero => cases H
   | succ k4 =>
    rw [I_KnownOk.l4] at H
    refine sg 1 ?_; refine WpC.seq ?_; refine cd H (fun hc H => ?_) (fun hc H => ?_)
    ·refine WpC.skip (WpC.seq (WpC.block (sr ?_))); obtain ⟨b139, hb139, H⟩ := bindS H; refine ix underlying24 info3 hb139 ?_; refine gn 2 ?_; refine sy 1 ?_; refine cB 1 ent64 (g64 k4  b139) H fun r140 H => ?_; refine gn 1 ?_; refine cd H (fun hc H => ?_) (fun hc H => ?_)
     ·refine sg 1 ?_; cases H; exact WpC.ret rt
     ·refine WpC.skip (WpC.regionL ?_); refine gn 2 ?_; exact ⟨k4, _, by omega, ⟨v134, v135, (IntKind.i64.wrap (v136 + 1)), by omega, H, rfl⟩, lm [(0, 0)] hm⟩
    ·refine WpC.exit (sr ?_); refine go 2 ?_; refine L.lenR (xs := v134.Terms) (e := eS) underlying34 hF rfl rfl rfl rfl ?_; refine go 2 ?_; refine sH H (fun hc H => ?_) (fun hc H => ?_)
     ·refine go 2 ?_; refine L.lenR (xs := v134.Keys) (e := eI) underlying24 hF rfl rfl rfl rfl ?_; refine go 3 ?_; refine sH H (fun hc H => ?_) (fun hc H => ?_)
      ·refine go 2 ?_; refine cB 1 ent146 (g146 k4 g1 v134.Keys) H fun r142 H => ?_; refine gn 2 ?_; cases H; exact WpC.ret rt
      ·refine gn 5 ?_; cases H; exact WpC.ret rt
     ·refine gn 11 ?_; cases H; exact WpC.ret rt
/-! ### I_WorldOk -/
def I_WorldOk.l8 : Nat → T_World → Int → Int → Option Bool
 | 0, _, _, _ => none
 | k8 + 1, v154, v155, v156 => cond (decide (v156 < v155)) ((at? v154.Accepts v156).bind fun b159 => (I_acceptOk k8 b159 (v154.Leaked.length : Int)).bind fun r160 => cond (!r160) (some false) ((I_WorldOk.l8 k8) v154 v155 (IntKind.i64.wrap (v156 + 1)))) ((V_ContainsFunc_string__impl_WorldOk_1 k8 v154.Net).bind fun r164 => cond r164 (some false) (cond (decide ((v154.Net.length : Int) > 50)) (some false) ((I_ConfigOk k8 v154.Config).bind fun r169 => cond r169 ((I_isTime k8 v154.Now).bind fun r170 => cond r170 ((I_within k8 v154.Fresh 101 1000000).bind fun r171 => cond r171 ((I_KnownOk k8 v154.Known).bind fun r172 => cond r172 (cond ((v154.Waits.length : Int) == 6) (cond (decide ((v154.Creds.length : Int) ≤ 30)) (cond ((v154.Caches.length : Int) == 3) (cond (decide ((v154.Log.length : Int) ≤ 40)) (cond (decide ((v154.Accepts.length : Int) ≤ 40)) (some (decide ((v154.Leaked.length : Int) ≤ 40))) (some false)) (some false)) (some false)) (some false)) (some false)) (some false)) (some false)) (some false)) (some false))))
def I_WorldOk.l6 : Nat → T_World → Int → Int → Option Bool
 | 0, _, _, _ => none
 | k6 + 1, v114, v115, v116 => cond (decide (v116 < v115)) ((at? v114.Caches v116).bind fun b119 => (I_CacheOk k6 b119).bind fun r120 => cond (!r120) (some false) ((I_WorldOk.l6 k6) v114 v115 (IntKind.i64.wrap (v116 + 1)))) (I_WorldOk.l8 k6 v114 (v114.Accepts.length : Int) 0)
def I_WorldOk.l4 : Nat → T_World → Int → Int → Option Bool
 | 0, _, _, _ => none
 | k4 + 1, v74, v75, v76 => cond (decide (v76 < v75)) ((at? v74.Creds v76).bind fun b79 => (I_CredOk k4 b79).bind fun r80 => cond (!r80) (some false) ((I_WorldOk.l4 k4) v74 v75 (IntKind.i64.wrap (v76 + 1)))) (I_WorldOk.l6 k4 v74 (v74.Caches.length : Int) 0)
def I_WorldOk.l2 : Nat → T_World → Int → Int → Option Bool
 | 0, _, _, _ => none
 | k2 + 1, v34, v35, v36 => cond (decide (v36 < v35)) ((at? v34.Waits v36).bind fun b39 => (I_waitOk k2 b39).bind fun r40 => cond (!r40) (some false) ((I_WorldOk.l2 k2) v34 v35 (IntKind.i64.wrap (v36 + 1)))) (I_WorldOk.l4 k2 v34 (v34.Creds.length : Int) 0)
def I_WorldOk (k : Nat) (a0 : T_World) : Option Bool := I_WorldOk.l2 k a0 (a0.Waits.length : Int) 0
theorem ent88 : MG.Enters Tryz.prog 88 := en func88
theorem g88 (k : Nat) (g0 g1 g2 g3 g4 g5 g6 g7 g8 g9 g10 g11 g12 : Bool) (a0 : T_World) (r : Bool) (H : I_WorldOk k a0 = some r) : Gives Tryz.prog 88 [V.agg (bT_World g0 g1 g2 g3 g4 g5 g6 g7 g8 g9 g10 g11 g12 a0)] [] [V.one (cL r)] [] := by
 refine Gives.intro func88 rfl rfl rfl rfl ?_; refine fx fun w0 T S0 ob oh hm => ?_
 have hF := fxe w0 T S0 121 ob oh
 unfold I_WorldOk at H; obtain ⟨K, hK⟩ := leK k; refine sr ?_; refine bo 16 ?_; refine gn 1 ?_; refine WpC.seq (sr ?_); refine go 2 ?_; refine L.lenR (xs := a0.Waits) (e := eT_Wait) underlying37 hF rfl rfl rfl rfl ?_; refine gn 1 ?_; refine WpC.block ?_; refine WpC.loopL (P := Tryz.prog) (fun n σ => ∃ (v34 : T_World) (v35 v36 : Int), n ≤ K ∧ I_WorldOk.l2 n v34 v35 v36 = some r ∧ σ = mkSt [(1, oP 0 0), (12, MG.one (Cell.sl g7 (List.map eT_Wait v34.Waits))), (13, oI v35), (14, oI v36)] [] [(0, (bT_World g0 g1 g2 g3 g4 g5 g6 g7 g8 g9 g10 g11 g12 v34))] 1) k ⟨_, ⟨a0, (a0.Waits.length : Int), 0, by omega, H, rfl⟩, lm [(0, 16)] hm⟩ ?_; clear H
 rintro k2 _ ⟨v34, v35, v36, hk2, H, rfl⟩
 cases k2 with
 | zero => cases H
 | succ k2 =>
  rw [I_WorldOk.l2] at H
  refine sg 1 ?_; refine WpC.seq ?_; refine cd H (fun hc H => ?_) (fun hc H => ?_)
  ·refine WpC.skip (WpC.seq (WpC.block (sr ?_))); obtain ⟨b39, hb39, H⟩ := bindS H; refine ix underlying37 info198 hb39 ?_; refine le shape198 ?_; refine alc 1 info198 ?_; refine gn 1 ?_; refine sy 1 ?_; refine cB 2 ent170 (g170 k2  b39) H fun r40 H => ?_; refine gn 1 ?_; refine cd H (fun hc H => ?_) (fun hc H => ?_)
   ·refine sg 1 ?_; cases H; exact WpC.ret rt
   ·refine WpC.skip (WpC.regionL ?_); refine gn 2 ?_; exact ⟨k2, _, by omega, ⟨v34, v35, (IntKind.i64.wrap (v36 + 1)), by omega, H, rfl⟩, lm [(0, 0)] hm⟩
  ·refine WpC.exit (WpC.seq (sr ?_)); refine go 2 ?_; refine L.lenR (xs := v34.Creds) (e := eT_Cred) underlying38 hF rfl rfl rfl rfl ?_; refine gn 1 ?_; refine WpC.block ?_; refine WpC.loopL (P := Tryz.prog) (fun n σ => ∃ (v74 : T_World) (v75 v76 : Int), n ≤ K ∧ I_WorldOk.l4 n v74 v75 v76 = some r ∧ σ = mkSt [(1, oP 0 0), (23, MG.one (Cell.sl g8 (List.map eT_Cred v74.Creds))), (24, oI v75), (25, oI v76)] [] [(0, (bT_World g0 g1 g2 g3 g4 g5 g6 g7 g8 g9 g10 g11 g12 v74))] 1) k2 ⟨_, ⟨v34, (v34.Creds.length : Int), 0, by omega, H, rfl⟩, lm [(0, 0)] hm⟩ ?_; clear H
   rintro k4 _ ⟨v74, v75, v76, hk4, H, rfl⟩
   cases k4 with
   | zero => cases H
   | succ k4 =>
    rw [I_WorldOk.l4] at H
    refine sg 1 ?_; refine WpC.seq ?_; refine cd H (fun hc H => ?_) (fun hc H => ?_)
    ·refine WpC.skip (WpC.seq (WpC.block (sr ?_))); obtain ⟨b79, hb79, H⟩ := bindS H; refine ix underlying38 info201 hb79 ?_; refine le shape201 ?_; refine alc 1 info201 ?_; refine gn 1 ?_; refine sy 1 ?_; refine cB 2 ent171 (g171 k4  b79) H fun r80 H => ?_; refine gn 1 ?_; refine cd H (fun hc H => ?_) (fun hc H => ?_)
     ·refine sg 1 ?_; cases H; exact WpC.ret rt
     ·refine WpC.skip (WpC.regionL ?_); refine gn 2 ?_; exact ⟨k4, _, by omega, ⟨v74, v75, (IntKind.i64.wrap (v76 + 1)), by omega, H, rfl⟩, lm [(0, 0)] hm⟩
    ·refine WpC.exit (WpC.seq (sr ?_)); refine go 2 ?_; refine L.lenR (xs := v74.Caches) (e := eT_Cache) underlying39 hF rfl rfl rfl rfl ?_; refine gn 1 ?_; refine WpC.block ?_; refine WpC.loopL (P := Tryz.prog) (fun n σ => ∃ (v114 : T_World) (v115 v116 : Int), n ≤ K ∧ I_WorldOk.l6 n v114 v115 v116 = some r ∧ σ = mkSt [(1, oP 0 0), (34, MG.one (Cell.sl g9 (List.map eT_Cache v114.Caches))), (35, oI v115), (36, oI v116)] [] [(0, (bT_World g0 g1 g2 g3 g4 g5 g6 g7 g8 g9 g10 g11 g12 v114))] 1) k4 ⟨_, ⟨v74, (v74.Caches.length : Int), 0, by omega, H, rfl⟩, lm [(0, 0)] hm⟩ ?_; clear H
     rintro k6 _ ⟨v114, v115, v116, hk6, H, rfl⟩
     cases k6 with
     | zero => cases H
     | succ k6 =>
      rw [I_WorldOk.l6] at H
      refine sg 1 ?_; refine WpC.seq ?_; refine cd H (fun hc H => ?_) (fun hc H => ?_)
      ·refine WpC.skip (WpC.seq (WpC.block (sr ?_))); obtain ⟨b119, hb119, H⟩ := bindS H; refine ix underlying39 info170 hb119 ?_; refine le shape170 ?_; refine alc 1 info170 ?_; refine gn 1 ?_; refine sy 1 ?_; refine cB 2 ent172 (g172 k6 g9 b119) H fun r120 H => ?_; refine gn 1 ?_; refine cd H (fun hc H => ?_) (fun hc H => ?_)
       ·refine sg 1 ?_; cases H; exact WpC.ret rt
       ·refine WpC.skip (WpC.regionL ?_); refine gn 2 ?_; exact ⟨k6, _, by omega, ⟨v114, v115, (IntKind.i64.wrap (v116 + 1)), by omega, H, rfl⟩, lm [(0, 0)] hm⟩
      ·refine WpC.exit (WpC.seq (sr ?_)); refine go 2 ?_; refine L.lenR (xs := v114.Accepts) (e := eT_Accept) underlying41 hF rfl rfl rfl rfl ?_; refine gn 1 ?_; refine WpC.block ?_; refine WpC.loopL (P := Tryz.prog) (fun n σ => ∃ (v154 : T_World) (v155 v156 : Int), n ≤ K ∧ I_WorldOk.l8 n v154 v155 v156 = some r ∧ σ = mkSt [(1, oP 0 0), (45, MG.one (Cell.sl g11 (List.map eT_Accept v154.Accepts))), (46, oI v155), (47, oI v156)] [] [(0, (bT_World g0 g1 g2 g3 g4 g5 g6 g7 g8 g9 g10 g11 g12 v154))] 1) k6 ⟨_, ⟨v114, (v114.Accepts.length : Int), 0, by omega, H, rfl⟩, lm [(0, 0)] hm⟩ ?_; clear H
       rintro k8 _ ⟨v154, v155, v156, hk8, H, rfl⟩
       cases k8 with
       | zero => cases H
       | succ k8 =>
        rw [I_WorldOk.l8] at H
        refine sg 1 ?_; refine WpC.seq ?_; refine cd H (fun hc H => ?_) (fun hc H => ?_)
        ·refine WpC.skip (WpC.seq (WpC.block (sr ?_))); obtain ⟨b159, hb159, H⟩ := bindS H; refine ix underlying41 info74 hb159 ?_; refine le shape74 ?_; refine alc 1 info74 ?_; refine gn 1 ?_; refine sy 3 ?_; refine L.lenR (xs := v154.Leaked) (e := eI) underlying24 hF rfl rfl rfl rfl ?_; refine cB 2 ent173 (g173 k8 g11 g11 b159 (v154.Leaked.length : Int)) H fun r160 H => ?_; refine gn 1 ?_; refine cd H (fun hc H => ?_) (fun hc H => ?_)
         ·refine sg 1 ?_; cases H; exact WpC.ret rt
         ·refine WpC.skip (WpC.regionL ?_); refine gn 2 ?_; exact ⟨k8, _, by omega, ⟨v154, v155, (IntKind.i64.wrap (v156 + 1)), by omega, H, rfl⟩, lm [(0, 0)] hm⟩
        ·refine WpC.exit (WpC.seq (sr ?_)); refine go 2 ?_; refine cB 1 ent174 (g174 k8 g4 v154.Net) H fun r164 H => ?_; refine mv ?_; refine sH H (fun hc H => ?_) (fun hc H => ?_)
         ·refine gn 5 ?_; refine cT ?_; refine sg 1 ?_; cases H; exact WpC.ret rt
         ·refine go 2 ?_; refine L.lenR (xs := v154.Net) (e := eS) underlying34 hF rfl rfl rfl rfl ?_; refine gn 2 ?_; refine cd H (fun hc H => ?_) (fun hc H => ?_)
          ·refine sg 1 ?_; cases H; exact WpC.ret rt
          ·refine WpC.skip (sr ?_); refine go 2 ?_; refine cB 2 ent99 (g99 k8 g0 g1 g2 g3 v154.Config) H fun r169 H => ?_; refine mv ?_; refine sH H (fun hc H => ?_) (fun hc H => ?_)
           ·refine go 2 ?_; refine cB 3 ent176 (g176 k8  v154.Now) H fun r170 H => ?_; refine go 2 ?_; refine sH H (fun hc H => ?_) (fun hc H => ?_)
            ·refine go 2 ?_; refine cB 4 ent66 (g66 k8  v154.Fresh 101 1000000) H fun r171 H => ?_; refine go 2 ?_; refine sH H (fun hc H => ?_) (fun hc H => ?_)
             ·refine go 2 ?_; refine cB 5 ent60 (g60 k8 g5 g6 v154.Known) H fun r172 H => ?_; refine go 2 ?_; refine sH H (fun hc H => ?_) (fun hc H => ?_)
              ·refine go 2 ?_; refine L.lenR (xs := v154.Waits) (e := eT_Wait) underlying37 hF rfl rfl rfl rfl ?_; refine go 3 ?_; refine sH H (fun hc H => ?_) (fun hc H => ?_)
               ·refine go 2 ?_; refine L.lenR (xs := v154.Creds) (e := eT_Cred) underlying38 hF rfl rfl rfl rfl ?_; refine go 3 ?_; refine sH H (fun hc H => ?_) (fun hc H => ?_)
                ·refine go 2 ?_; refine L.lenR (xs := v154.Caches) (e := eT_Cache) underlying39 hF rfl rfl rfl rfl ?_; refine go 3 ?_; refine sH H (fun hc H => ?_) (fun hc H => ?_)
                 ·refine go 2 ?_; refine L.lenR (xs := v154.Log) (e := eT_Event) underlying40 hF rfl rfl rfl rfl ?_; refine go 3 ?_; refine sH H (fun hc H => ?_) (fun hc H => ?_)
                  ·refine go 2 ?_; refine L.lenR (xs := v154.Accepts) (e := eT_Accept) underlying41 hF rfl rfl rfl rfl ?_; refine go 3 ?_; refine sH H (fun hc H => ?_) (fun hc H => ?_)
                   ·refine go 2 ?_; refine L.lenR (xs := v154.Leaked) (e := eI) underlying24 hF rfl rfl rfl rfl ?_; refine gn 3 ?_; cases H; exact WpC.ret rt
                   ·refine gn 6 ?_; cases H; exact WpC.ret rt
                  ·refine gn 12 ?_; cases H; exact WpC.ret rt
                 ·refine gn 18 ?_; cases H; exact WpC.ret rt
                ·refine gn 24 ?_; cases H; exact WpC.ret rt
               ·refine gn 30 ?_; cases H; exact WpC.ret rt
              ·refine gn 36 ?_; cases H; exact WpC.ret rt
             ·refine gn 41 ?_; cases H; exact WpC.ret rt
            ·refine gn 46 ?_; cases H; exact WpC.ret rt
           ·refine gn 51 ?_; cases H; exact WpC.ret rt
/-! ### I_isOf -/
def I_isOf (k : Nat) (a0 : List UInt8) (a1 : UInt8) : Option Bool := (I_TermOk k a0).bind fun r3 => cond r3 ((at? a0 0).bind fun b4 => some (b4 == a1)) (some false)
theorem ent221 : MG.Enters Tryz.prog 221 := en func221
theorem g221 (k : Nat) (a0 : List UInt8) (a1 : UInt8) (r : Bool) (H : I_isOf k a0 a1 = some r) : Gives Tryz.prog 221 [V.one (cS a0), V.one (cU a1)] [] [V.one (cL r)] [] := by
 refine Gives.intro func221 rfl rfl rfl rfl ?_; refine fx fun w0 T S0 ob oh hm => ?_
 have hF := fxe w0 T S0 13 ob oh
 unfold I_isOf at H; obtain ⟨K, hK⟩ := leK k; refine sg 1 ?_; refine sy 1 ?_; refine cB 2 ent144 (g144 k  a0) H fun r3 H => ?_; refine mv ?_; refine sH H (fun hc H => ?_) (fun hc H => ?_)
 ·refine mv ?_; obtain ⟨b4, hb4, H⟩ := bindS H; refine L.idxS underlying9 hF rfl rfl rfl rfl hb4 ?_; refine mv ?_; refine L.binB (a := b4) (b := a1) hF rfl rfl rfl rfl rfl ?_; refine gn 2 ?_; cases H; exact WpC.ret rt
 ·refine gn 6 ?_; cases H; exact WpC.ret rt
/-! ### I_ReadKey -/
def I_ReadKey (k : Nat) (a0 : List UInt8) : Option (Int × Bool) := (I_isOf k a0 (107 : UInt8)).bind fun r2 => cond (!r2) (some (0, false)) ((I_varAt k a0 1).bind fun r3 => some (r3.1, true))
theorem ent219 : MG.Enters Tryz.prog 219 := en func219
theorem g219 (k : Nat) (a0 : List UInt8) (r : Int × Bool) (H : I_ReadKey k a0 = some r) : Gives Tryz.prog 219 [V.one (cS a0)] [] [V.one (cI r.1), V.one (cL r.2)] [] := by
 refine Gives.intro func219 rfl rfl rfl rfl ?_; refine fx fun w0 T S0 ob oh hm => ?_
 have hF := fxe w0 T S0 15 ob oh
 unfold I_ReadKey at H; obtain ⟨K, hK⟩ := leK k; refine sg 2 ?_; refine WpC.seq (sr ?_); refine mv ?_; refine cB 1 ent221 (g221 k  a0 (107 : UInt8)) H fun r2 H => ?_; refine gn 1 ?_; refine cd H (fun hc H => ?_) (fun hc H => ?_)
 ·refine sg 2 ?_; cases H; exact WpC.ret rt
 ·refine WpC.skip (sr ?_); refine mv ?_; refine cB 2 ent222 (g222 k  a0 1) H fun r3 H => ?_; refine gn 5 ?_; refine sg 3 ?_; cases H; exact WpC.ret rt
/-! ### I_Parts -/
def I_Parts.l2 : Nat → (List UInt8) → Int → (List (List UInt8)) → Int → Int → Option (List (List UInt8) × Bool)
 | 0, _, _, _, _, _ => none
 | k2 + 1, v57, v58, v59, v60, v61 => cond (decide (v61 < v60)) ((I_termAt k2 v57 v58 8).bind fun r65 => (cut? v57 v58 r65).bind fun b66 => cond (decide ((2 * (v59.length + ([b66] : List (List UInt8)).length) + 192) * 16 ≤ 281474976710656)) ((I_Parts.l2 k2) v57 r65 (v59 ++ ([b66] : List (List UInt8))) v60 (IntKind.i64.wrap (v61 + 1))) none) (some (v59, true))
def I_Parts (k : Nat) (a0 : List UInt8) : Option (List (List UInt8) × Bool) := (I_isOf k a0 (108 : UInt8)).bind fun r2 => cond (!r2) (some ([], false)) ((I_varAt k a0 1).bind fun r3 => I_Parts.l2 k a0 r3.2 ([] : List (List UInt8)) r3.1 0)
theorem ent220 : MG.Enters Tryz.prog 220 := en func220
theorem g220 (k : Nat) (a0 : List UInt8) (r : List (List UInt8) × Bool) (H : I_Parts k a0 = some r) : Gives Tryz.prog 220 [V.one (cS a0)] [] [V.one (Cell.ow 1 (List.map eS r.1)), V.one (cL r.2)] [] := by
 refine Gives.intro func220 rfl rfl rfl rfl ?_; refine fx fun w0 T S0 ob oh hm => ?_
 have hF := fxe w0 T S0 33 ob oh
 unfold I_Parts at H; obtain ⟨K, hK⟩ := leK k; refine sg 2 ?_; refine WpC.seq (sr ?_); refine mv ?_; refine cB 1 ent221 (g221 k  a0 (108 : UInt8)) H fun r2 H => ?_; refine gn 1 ?_; refine cd H (fun hc H => ?_) (fun hc H => ?_)
 ·refine sg 2 ?_; refine WpC.le (Le.own 2 0 2 1 rfl rfl rfl) ?_; cases H; exact WpC.ret rt
 ·refine WpC.skip (sr ?_); refine mv ?_; refine cB 2 ent222 (g222 k  a0 1) H fun r3 H => ?_; refine gn 5 ?_; refine sr ?_; refine L.buildSlice (e := eS) 4 ([] : List (List UInt8)) underlying34 info9 rfl rfl rfl hF rfl rfl rfl rfl rfl rfl rfl rfl ?_; refine gn 1 ?_; refine WpC.seq (sr ?_); refine gn 2 ?_; refine WpC.block ?_; refine WpC.loopL (P := Tryz.prog) (fun n σ => ∃ (v57 : List UInt8) (v58 : Int) (v59 : List (List UInt8)) (v60 v61 : Int), n ≤ K ∧ I_Parts.l2 n v57 v58 v59 v60 v61 = some r ∧ σ = mkSt [(0, oS v57), (5, oI v58), (6, MG.one (Cell.own 0)), (17, oI v60), (18, oI v61)] [(0, ⟨1, List.map eS v59⟩)] [] 1) k ⟨_, ⟨a0, r3.2, ([] : List (List UInt8)), r3.1, 0, by omega, H, rfl⟩, lm [(0, 4)] hm⟩ ?_; clear H
  rintro k2 _ ⟨v57, v58, v59, v60, v61, hk2, H, rfl⟩
  cases k2 with
  | zero => cases H
  | succ k2 =>
   rw [I_Parts.l2] at H
   refine sg 1 ?_; refine WpC.seq ?_; refine cd H (fun hc H => ?_) (fun hc H => ?_)
   ·refine WpC.skip (WpC.seq (WpC.block (sr ?_))); refine go 2 ?_; refine cB 1 ent217 (g217 k2  v57 v58 8) H fun r65 H => ?_; refine gn 1 ?_; refine sy 4 ?_; obtain ⟨b66, hb66, H⟩ := bindS H; refine L.cutS underlying9 hF rfl rfl rfl rfl rfl hb66 ?_; refine L.buildSlice (e := eS) 2 ([b66] : List (List UInt8)) underlying34 info9 rfl rfl rfl hF rfl rfl rfl rfl rfl rfl rfl rfl ?_; obtain ⟨h67, H⟩ := condG H; refine L.append (xs := v59) (ys := ([b66] : List (List UInt8))) (e := eS) 3 underlying34 info9 rfl rfl hF rfl rfl rfl rfl rfl rfl rfl rfl (fun _ => rfl) (fun _ _ h1 h2 => by cases h1; cases h2; rfl) ⟨_, underlying34⟩ (of_decide_eq_true h67) rfl rfl ?_; refine gn 1 ?_; refine WpC.regionL ?_; refine gn 2 ?_; refine WpC.regionL ?_; refine gn 2 ?_; exact ⟨k2, _, by omega, ⟨v57, r65, (v59 ++ ([b66] : List (List UInt8))), v60, (IntKind.i64.wrap (v61 + 1)), by omega, H, rfl⟩, lm [(0, 3)] hm⟩
   ·refine WpC.exit (sr ?_); refine gn 3 ?_; cases H; exact WpC.ret rt
/-! ### I_sealed -/
def I_sealed (k : Nat) (a0 : List UInt8) : Option (Int × List UInt8 × Bool) := (I_isOf k a0 (115 : UInt8)).bind fun r2 => cond (!r2) (some (0, ([] : List UInt8), false)) ((I_varAt k a0 1).bind fun r3 => (cut? a0 r3.2 (a0.length : Int)).bind fun b4 => some (r3.1, b4, true))
theorem ent148 : MG.Enters Tryz.prog 148 := en func148
theorem g148 (k : Nat) (a0 : List UInt8) (r : Int × List UInt8 × Bool) (H : I_sealed k a0 = some r) : Gives Tryz.prog 148 [V.one (cS a0)] [] [V.one (cI r.1), V.one (cS r.2.1), V.one (cL r.2.2)] [] := by
 refine Gives.intro func148 rfl rfl rfl rfl ?_; refine fx fun w0 T S0 ob oh hm => ?_
 have hF := fxe w0 T S0 19 ob oh
 unfold I_sealed at H; obtain ⟨K, hK⟩ := leK k; refine sg 3 ?_; refine WpC.seq (sr ?_); refine mv ?_; refine cB 1 ent221 (g221 k  a0 (115 : UInt8)) H fun r2 H => ?_; refine gn 1 ?_; refine cd H (fun hc H => ?_) (fun hc H => ?_)
 ·refine sg 3 ?_; cases H; exact WpC.ret rt
 ·refine WpC.skip (sr ?_); refine mv ?_; refine cB 2 ent222 (g222 k  a0 1) H fun r3 H => ?_; refine gn 5 ?_; refine WpC.seq ?_; refine S.begin mixed (by kernel_rfl) ?_; refine S.st 0 rfl rfl ((Ca.move).quiet) (fun Q0 k0 => mv (L.nil k0)) ?_; refine S.st 1 rfl rfl ((Ca.move).quiet) (fun Q0 k0 => mv (L.nil k0)) ?_; refine S.st 2 rfl rfl ((Ca.move).quiet) (fun Q0 k0 => mv (L.nil k0)) ?_; obtain ⟨b4, hb4, H⟩ := bindS H; refine S.st 3 rfl rfl ((Ca.slice).quiet) (fun Q0 k0 => L.cutS underlying9 hF rfl rfl rfl rfl rfl hb4 (L.nil k0)) ?_; refine S.st 4 rfl rfl ((Ca.assign).quiet) (fun Q0 k0 => ag (L.nil k0)) ?_; refine S.st 5 rfl rfl ((Ca.assign).quiet) (fun Q0 k0 => ag (L.nil k0)) ?_; refine S.st 6 rfl rfl ((Ca.assign).quiet) (fun Q0 k0 => ag (L.nil k0)) ?_; refine S.nil ?_; cases H; exact WpC.ret rt
/-! ### V_Sort_int (shelf) -/
theorem ent62 : MG.Enters Tryz.prog 62 := en func62
/-! ### V_Compact_int (shelf) -/
theorem ent205 : MG.Enters Tryz.prog 205 := en func205
/-! ### I_risen -/
def I_risen (k : Nat) (a0 : List Int) : Option (List Int) := (V_Sort_int k a0).bind fun r1 => (V_Compact_int k r1).bind fun r2 => some r2
theorem ent124 : MG.Enters Tryz.prog 124 := en func124
theorem g124 (k : Nat) (a0 r : List Int) (H : I_risen k a0 = some r) : Gives Tryz.prog 124 [V.one (Cell.ow 1 (List.map eI a0))] [] [V.one (Cell.ow 1 (List.map eI r))] [] := by
 refine Gives.intro func124 rfl rfl rfl rfl ?_; refine fx fun w0 T S0 ob oh hm => ?_
 have hF := fxe w0 T S0 7 ob oh
 unfold I_risen at H; obtain ⟨K, hK⟩ := leK k; refine sg 1 ?_; refine sy 1 ?_; obtain ⟨r1, hr1, H⟩ := bindS H; refine L.callB [true] [] [] 1 [0] hF rfl rfl rfl ent62 rfl rfl rfl rfl rfl (V_Sort_int_gives k  a0 r1 hr1) rfl rfl rfl (L.nil ?_); refine sy 1 ?_; obtain ⟨r2, hr2, H⟩ := bindS H; refine ca [true] [] [] 1 ent205 (V_Compact_int_gives k  r1 r2 hr2) ?_; refine gn 1 ?_; cases H; exact WpC.ret rt
/-! ### I_Reach -/
theorem ent18 : MG.Enters Tryz.prog 18 := en Tryz.func18
structure Sgt where
  seen : List (List UInt8)
  reached : List Int
  closed : List (List UInt8)
def insN (l : List Int) (n : Int) : List Int := cond (l.contains n) l (l ++ [n])
def lookL (g : List UInt8 → Sgt → Option Sgt) (ps : List (List UInt8)) : Nat → Int → Sgt → Option Sgt
  | 0, _, _ => none
  | n + 1, i, s => cond (decide (i < (ps.length : Int))) ((at? ps i).bind fun p => (g p s).bind fun s => lookL g ps n (IntKind.i64.wrap (i + 1)) s) (some s)
def Flook : Nat → List UInt8 → Sgt → Option Sgt
  | 0, _, _ => none
  | k + 1, t, s => cond (s.seen.contains t) (some s) ((at? t (0 : Int)).bind fun b =>
    cond (b == (107 : UInt8)) ((I_ReadKey k t).bind fun r => some ⟨s.seen ++ [t], insN s.reached r.1, s.closed⟩)
    (cond (b == (108 : UInt8)) ((I_Parts k t).bind fun r => lookL (Flook k) r.1 k 0 ⟨s.seen ++ [t], s.reached, s.closed⟩)
    (cond (b == (115 : UInt8)) (cond (decide ((2 * (s.closed.length + ([t] : List (List UInt8)).length) + 192) * 16 ≤ 281474976710656)) (some ⟨s.seen ++ [t], s.reached, s.closed ++ [t]⟩) none) (some ⟨s.seen ++ [t], s.reached, s.closed⟩))))
theorem ent147 : MG.Enters Tryz.prog 147 := en Tryz.func147
theorem ent61 : MG.Enters Tryz.prog 61 := en Tryz.func61
theorem str_inj {a b : List UInt8} (h : str a = str b) : a = b := by cases h; rfl
theorem i64_inj {a b : Int} (h : i64 a = i64 b) : a = b := by cases h; rfl
theorem hasT {l : List (List UInt8)} {t : List UInt8} : l.contains t = true ↔ str t ∈ l.map str := by
  simp only [List.contains_iff_mem, List.mem_map]
  exact ⟨fun h => ⟨t, h, rfl⟩, fun ⟨x, hx, e⟩ => str_inj e ▸ hx⟩
theorem hasN {l : List Int} {n : Int} : l.contains n = true ↔ i64 n ∈ l.map i64 := by
  simp only [List.contains_iff_mem, List.mem_map]
  exact ⟨fun h => ⟨n, h, rfl⟩, fun ⟨x, hx, e⟩ => i64_inj e ▸ hx⟩
theorem insN_map (l : List Int) (n : Int) : (insN l n).map i64 = cond (l.contains n) (l.map i64) (l.map i64 ++ [i64 n]) := by
  simp only [insN]; cases l.contains n <;> simp
abbrev dI : TypeDesc := .int .i64
def LookIn (b1 b2 : Nat) (s : Sgt) (w : World) (S : Bool → Nat → Prop) (T : List Nat) : Prop := b1 ≠ b2 ∧ (b1 < w.heap.size ∧ b1 ∉ T ∧ (∀ g, ¬ S g b1) ∧ ∃ o, w.heap[b1]? = some o ∧ MapObj o .string (s.seen.map str)) ∧ (b2 < w.heap.size ∧ b2 ∉ T ∧ (∀ g, ¬ S g b2) ∧ ∃ o, w.heap[b2]? = some o ∧ MapObj o dI (s.reached.map i64))
def LookOut (b1 b2 : Nat) (s' : Sgt) (w w' w1 : World) (MB : List Nat) : Prop := MB = [] ∧ ∃ o1 o2, w1 = setBlk (setBlk w' b1 o1) b2 o2 ∧ MapObj o1 .string (s'.seen.map str) ∧ MapObj o2 dI (s'.reached.map i64)
/-- The two maps, as they stand. -/
structure Maps (b1 b2 : Nat) (s : Sgt) (F : Fix) : Prop where
  ne : b1 ≠ b2
  m1 : OldM F b1 .string (s.seen.map str)
  m2 : OldM F b2 dI (s.reached.map i64)
theorem Maps.inl {b1 b2 : Nat} {s : Sgt} {F : Fix} (M : Maps b1 b2 s F) {H : Heap} {E : Env} (hH : RelH F H E) : ∀ S T, (∀ g b, S g b → E.S g b ∨ ∃ k, Own E k b) → (∀ b ∈ T, ∃ k, Own E k b) → LookIn b1 b2 s E.w S T := by
  intro S T hS hT
  obtain ⟨x1, x2, x3, x4⟩ := M.m1.old.free hH
  obtain ⟨y1, y2, y3, y4⟩ := M.m2.old.free hH
  refine ⟨M.ne, ⟨x3, fun hb => ?_, fun g hg => ?_, M.m1.now hH⟩, ⟨y3, fun hb => ?_, fun g hg => ?_, M.m2.now hH⟩⟩
  · obtain ⟨k, hk⟩ := hT _ hb; exact x1 k hk
  · rcases hS _ _ hg with h | ⟨k, hk⟩
    · exact x2 g h
    · exact x1 k hk
  · obtain ⟨k, hk⟩ := hT _ hb; exact y1 k hk
  · rcases hS _ _ hg with h | ⟨k, hk⟩
    · exact y2 g h
    · exact y1 k hk
theorem Maps.set {b1 b2 : Nat} {s s' : Sgt} {F : Fix} (M : Maps b1 b2 s F) {o1 o2 : Obj} (h1 : MapObj o1 .string (s'.seen.map str)) (h2 : MapObj o2 dI (s'.reached.map i64)) : Maps b1 b2 s' ((F.setB b1 o1).setB b2 o2) :=
  ⟨M.ne, (OldM.setB M.m1.old h1).other M.ne, OldM.setB M.m2.old.setB h2⟩
theorem Maps.set1 {b1 b2 : Nat} {s s' : Sgt} {F : Fix} (M : Maps b1 b2 s F) {o1 : Obj} (h1 : MapObj o1 .string (s'.seen.map str)) (h2 : s'.reached = s.reached) : Maps b1 b2 s' (F.setB b1 o1) :=
  ⟨M.ne, OldM.setB M.m1.old h1, by rw [h2]; exact M.m2.other M.ne.symm⟩
theorem Maps.set2 {b1 b2 : Nat} {s s' : Sgt} {F : Fix} (M : Maps b1 b2 s F) {o1 : Obj} (h1 : MapObj o1 dI (s'.reached.map i64)) (h2 : s'.seen = s.seen) : Maps b1 b2 s' (F.setB b2 o1) :=
  ⟨M.ne, by rw [h2]; exact M.m1.other M.ne, OldM.setB M.m2.old h1⟩
theorem Maps.as {b1 b2 : Nat} {s s' : Sgt} {F : Fix} (M : Maps b1 b2 s F) (h1 : s'.seen = s.seen) (h2 : s'.reached = s.reached) : Maps b1 b2 s' F := ⟨M.ne, by rw [h1]; exact M.m1, by rw [h2]; exact M.m2⟩
theorem z3 (w : World) : (zeroValue 3).run Tryz.prog w = .ok (i64 0) w := by
  have : Tryz.t3.zero = some (i64 0) := rfl
  simp [zeroValue, run_typeInfo w info3, Result.andThen, this]
abbrev cM (b : Nat) : Cell := .raw (.map (some b))
theorem Flook_ok : ∀ (k : Nat) (t : List UInt8) (s s' : Sgt) (H : Flook k t s = some s') (b1 b2 : Nat), HoldsX Tryz.prog 147 [V.one (.ptr 0 0), V.one (cS t)] [[cM b1, cM b2, .ow 1 (s.closed.map eS)]] (LookIn b1 b2 s) (LookOut b1 b2 s') (fun _ => []) [[cM b1, cM b2, .ow 1 (s'.closed.map eS)]] := by
  intro k
  induction k with
  | zero => intro t s s' H; cases H
  | succ k ih =>
  intro t s s' H b1 b2
  refine HoldsX.intro Tryz.func147 rfl (Nat.le_of_ble_eq_true rfl) (by intro cs hcs; simp at hcs; subst hcs; exact ⟨rfl, rfl⟩) (by intro j hj; simp [V.names, V.cells, cnames, Cell.names] at hj; simp [hj]) fun F l hn hm hT hIn => ?_
  have hF : F.n = 65 := hn
  obtain ⟨hne, ⟨x1, x2, x3, x4⟩, y1, y2, y3, y4⟩ := hIn
  have M : Maps b1 b2 s F := ⟨hne, ⟨⟨x1, by rw [hT]; exact x2, x3⟩, x4⟩, ⟨y1, by rw [hT]; exact y2, y3⟩, y4⟩
  -- the end
  have fin : ∀ {F' : Fix} {σ : St} {e : Exit}, Two b1 b2 F F' → Maps b1 b2 s' F' → MG.Leaves Tryz.prog Tryz.f147 1 [] (fun r o b => r = [] ∧ o = [[cM b1, cM b2, .ow 1 (s'.closed.map eS)]] ∧ b = []) e σ → ∃ MB : List Nat, MG.Leaves Tryz.prog Tryz.f147 1 [] (fun r o b => r = [] ∧ o = [[cM b1, cM b2, .ow 1 (s'.closed.map eS)]] ∧ b = []) e σ ∧ ∀ a w1, Rel F' σ a w1 → ∃ E : Env, RelH F σ.H E ∧ RelS F σ.slots σ.H a E ∧ Pin F σ.H E ∧ LookOut b1 b2 s' F.w0 E.w w1 MB ∧ (∀ v, (results Tryz.f147 a.tmps).run Tryz.prog E.w = .ok v E.w → (results Tryz.f147 a.tmps).run Tryz.prog w1 = .ok v w1) ∧ (∀ b ∈ MB, F.w0.heap.size ≤ b ∧ b < E.w.heap.size ∧ (∀ g, ¬ E.S g b) ∧ ∀ k, ¬ Own E k b) := by
    intro F' σ e t M' hl
    refine ⟨[], hl, fun a w1 hr => ?_⟩
    obtain ⟨o1, p1, q1⟩ := M'.m1.obj
    obtain ⟨o2, p2, q2⟩ := M'.m2.obj
    obtain ⟨E, f1, f2, f3, f4⟩ := t.back M.m1.old M.m2.old hne p1 p2 hr
    refine ⟨E, f1, f2, f3, ⟨rfl, o1, o2, f4, q1, q2⟩, fun v hv => ?_, fun b hb => by cases hb⟩
    have : ∀ w, (results Tryz.f147 a.tmps).run Tryz.prog w = .ok (.tuple #[]) w := fun w => by
      have hr : Tryz.f147.results = #[] := rfl
      simp [results, hr]
    rw [this] at hv ⊢
    cases hv; rfl
  rw [Flook] at H
  refine WmC.seq ?_
  refine WmC.seq ?_
  refine WmC.regionL ?_
  refine WmL.take 5 (L.move hF rfl rfl rfl (L.nilCheck hF rfl rfl rfl rfl (L.fieldAddr Tryz.underlying110 rfl info107 rfl hF rfl rfl rfl rfl rfl (L.loadPtr shape107 hF rfl rfl rfl rfl rfl rfl (L.move hF rfl rfl rfl (L.nil rfl)))))) ?_
  refine WmL.lookup (s.seen.contains t) Tryz.underlying107 Tryz.underlying9 z3 hF rfl rfl rfl rfl M.m1 trivial hasT ?_
  refine WmL.take 1 (L.bin hF rfl rfl rfl rfl rfl rfl (L.nil rfl)) ?_
  refine WmL.nil ?_
  refine WmC.cond rfl (fun hc => ?_) (fun hc => ?_)
  · have hs : s.seen.contains t = true := by revert hc; cases s.seen.contains t <;> intro hc <;> first | rfl | cases hc
    rw [hs] at H; cases H
    refine WmC.ret (fin Two.refl M (Leaves.ret rfl rfl rfl ⟨rfl, rfl⟩))
  have hs : s.seen.contains t = false := by revert hc; cases s.seen.contains t <;> intro hc <;> first | rfl | cases hc
  rw [hs] at H
  obtain ⟨b, hb, H⟩ := bindS H
  refine WmC.skip ?_
  refine WmC.seq ?_
  refine WmC.regionL ?_
  refine WmL.take 5 (L.move hF rfl rfl rfl (L.nilCheck hF rfl rfl rfl rfl (L.fieldAddr Tryz.underlying110 rfl info107 rfl hF rfl rfl rfl rfl rfl (L.loadPtr shape107 hF rfl rfl rfl rfl rfl rfl (L.move hF rfl rfl rfl (L.nil rfl)))))) ?_
  refine WmL.update (s.seen.contains t) Tryz.underlying107 Tryz.underlying9 hF rfl rfl rfl rfl M.m1 trivial hasT fun o1 ho1 => ?_
  refine WmL.nil ?_
  rw [hs] at ho1
  generalize hs1 : (⟨s.seen ++ [t], s.reached, s.closed⟩ : Sgt) = s1 at H
  have M1 : Maps b1 b2 s1 (F.setB b1 o1) := by subst hs1; exact M.set1 (by simpa using ho1) rfl
  have T1 : Two b1 b2 F (F.setB b1 o1) := Two.refl.set1
  generalize F.setB b1 o1 = F1 at M1 T1 ⊢
  have hF1 : F1.n = 65 := T1.n.trans hF
  refine WmC.seq ?_
  refine WmC.regionL ?_
  refine WmL.take 2 (L.move hF1 rfl rfl rfl (L.idxS Tryz.underlying9 hF1 rfl rfl rfl rfl hb (L.nil rfl))) ?_
  refine WmL.nil ?_
  refine WmC.block ?_
  refine WmC.seq ?_
  refine WmC.regionL ?_
  refine WmL.take 2 (L.binB (a := b) (b := 107) hF1 rfl rfl rfl rfl rfl (L.assign hF1 rfl rfl rfl (L.nil rfl))) ?_
  refine WmL.nil ?_
  refine WmC.cond rfl (fun hc => ?_) (fun hc => ?_)
  · replace H := condT hc H
    obtain ⟨r, hr, H⟩ := bindS H
    refine WmC.seq ?_
    refine WmC.regionL ?_
    refine WmL.take 7 (L.move hF1 rfl rfl rfl (L.call [false] [] [] 6 hF1 rfl rfl rfl ent219 rfl rfl rfl rfl rfl (g219 k t r hr) rfl (L.move hF1 rfl rfl rfl (L.extract hF1 rfl rfl rfl rfl (L.extract hF1 rfl rfl rfl rfl (L.assign hF1 rfl rfl rfl (L.assign hF1 rfl rfl rfl (L.nil rfl)))))))) ?_
    refine WmL.nil ?_
    refine WmC.regionL ?_
    refine WmL.take 5 (L.move hF1 rfl rfl rfl (L.nilCheck hF1 rfl rfl rfl rfl (L.fieldAddr Tryz.underlying110 rfl info108 rfl hF1 rfl rfl rfl rfl rfl (L.loadPtr shape108 hF1 rfl rfl rfl rfl rfl rfl (L.move hF1 rfl rfl rfl (L.nil rfl)))))) ?_
    refine WmL.update (s1.reached.contains r.1) Tryz.underlying108 Tryz.underlying3 hF1 rfl rfl rfl rfl M1.m2 rfl hasN fun o2 ho2 => ?_
    refine WmL.nil ?_
    cases H
    subst hs1
    exact fin T1.set2 (M1.set2 (by rw [insN_map]; exact ho2) rfl) (Leaves.normal rfl rfl rfl ⟨rfl, rfl⟩)
  replace H := condF hc H
  refine WmC.seq ?_
  refine WmC.regionL ?_
  refine WmL.take 2 (L.binB (a := b) (b := 108) hF1 rfl rfl rfl rfl rfl (L.assign hF1 rfl rfl rfl (L.nil rfl))) ?_
  refine WmL.nil ?_
  refine WmC.cond rfl (fun hc => ?_) (fun hc => ?_)
  · replace H := condT hc H
    obtain ⟨r, hr, H⟩ := bindS H
    refine WmC.seq ?_
    refine WmC.regionL ?_
    refine WmL.take 7 (L.move hF1 rfl rfl rfl (L.call [false] [] [] 6 hF1 rfl rfl rfl ent220 rfl rfl rfl rfl rfl (g220 k t r hr) rfl (L.move hF1 rfl rfl rfl (L.extract hF1 rfl rfl rfl rfl (L.extract hF1 rfl rfl rfl rfl (L.assign hF1 rfl rfl rfl (L.assign hF1 rfl rfl rfl (L.nil rfl)))))))) ?_
    refine WmL.nil ?_
    refine WmC.seq ?_
    refine WmC.regionL ?_
    refine WmL.take 3 (L.move hF1 rfl rfl rfl (L.lenR (xs := r.1) (e := eS) Tryz.underlying34 hF1 rfl rfl rfl rfl (L.move hF1 rfl rfl rfl (L.nil rfl)))) ?_
    refine WmL.nil ?_
    refine WmC.block ?_
    have hm1 : MG.Pinned F1 1 [] := ⟨by rw [T1.ob]; exact hm.ob, by rw [T1.oh]; exact hm.oh⟩
    refine WmC.loopL (fun n F' σ => ∃ i s2, lookL (Flook k) r.1 n i s2 = some s' ∧ Two b1 b2 F F' ∧ Maps b1 b2 s2 F' ∧ σ = mkSt [(0, MG.one (.ptr 0 0)), (43, MG.one (.own 1)), (44, MG.one (cI (r.1.length : Int))), (45, MG.one (cI i))] [(1, ⟨1, r.1.map eS⟩), (2, ⟨1, s2.closed.map eS⟩)] [(0, [cM b1, cM b2, .own 2])] 3) k ⟨_, ⟨0, s1, H, T1, M1, rfl⟩, ?_⟩ ?_
    · subst hs1
      exact Le.mk [(0, 0), (1, 6), (2, 5)] hm1 rfl (Sa4 trivial) (Ra2 trivial) (Ba1 trivial)
    clear H
    rintro n F2 _ ⟨i, s2, H, T2, M2, rfl⟩
    cases n with
    | zero => cases H
    | succ n =>
    rw [lookL] at H
    have hF2 : F2.n = 65 := T2.n.trans hF
    have hm2 : MG.Pinned F2 1 [] := ⟨by rw [T2.ob]; exact hm.ob, by rw [T2.oh]; exact hm.oh⟩
    refine WmC.seq ?_
    refine WmC.regionL ?_
    refine WmL.take 1 (L.bin hF2 rfl rfl rfl rfl rfl rfl (L.nil rfl)) ?_
    refine WmL.nil ?_
    refine WmC.seq ?_
    refine WmC.cond rfl (fun hc => ?_) (fun hc => ?_)
    · replace H := condT hc H
      obtain ⟨p, hp, H⟩ := bindS H
      obtain ⟨s3, h3, H⟩ := bindS H
      refine WmC.skip ?_
      refine WmC.seq ?_
      refine WmC.block ?_
      refine WmC.seq ?_
      refine WmC.regionL ?_
      refine WmL.take 3 (L.idxR (xs := r.1) (e := eS) Tryz.underlying34 info9 hF2 rfl rfl rfl rfl rfl hp rfl rfl (L.loadEp (xs := r.1) (e := eS) shape9 hF2 rfl rfl rfl rfl (at?_get hp).2 rfl rfl (L.assign hF2 rfl rfl rfl (L.nil rfl)))) ?_
      refine WmL.nil ?_
      refine WmC.regionL ?_
      refine WmL.take 2 (L.move hF2 rfl rfl rfl (L.move hF2 rfl rfl rfl (L.nil rfl))) ?_
      refine WmL.call [false, false] [] [0] 3 hF2 rfl rfl rfl ent147 rfl rfl rfl rfl rfl (ih p s2 s3 h3 b1 b2) (fun E hH => M2.inl hH) (fun _ => rfl) (fun w w1 MB E' hfr ho hH hfree => ?_)
      obtain ⟨rfl, o1, o2, rfl, q1, q2⟩ := ho
      have M3 := M2.set q1 q2
      refine ⟨(F2.setB b1 o1).setB b2 o2, fun a sl' hS hP => Rel.setB' (Rel.setB hH hS hP M2.m1.old) M2.m2.old.setB, ?_⟩
      have T3 : Two b1 b2 F ((F2.setB b1 o1).setB b2 o2) := T2.set1.set2
      generalize (F2.setB b1 o1).setB b2 o2 = F3 at M3 T3 ⊢
      have hF3 : F3.n = 65 := T3.n.trans hF
      have hm3 : MG.Pinned F3 1 [] := ⟨by rw [T3.ob]; exact hm.ob, by rw [T3.oh]; exact hm.oh⟩
      refine WmL.nil ?_
      refine WmC.regionL ?_
      refine WmL.take 2 (L.bin hF3 rfl rfl rfl rfl rfl rfl (L.move hF3 rfl rfl rfl (L.nil rfl))) ?_
      refine WmL.nil ?_
      exact ⟨n, _, by omega, ⟨_, s3, H, T3, M3, rfl⟩, Le.mk [(0, 0), (1, 1), (2, 5)] hm3 rfl (Sa4 trivial) (Ra2 trivial) (Ba1 trivial)⟩
    · replace H := condF hc H
      cases H
      refine WmC.exit ?_
      exact fin T2 M2 (Leaves.normal rfl rfl rfl ⟨rfl, rfl⟩)
  replace H := condF hc H
  refine WmC.seq ?_
  refine WmC.regionL ?_
  refine WmL.take 2 (L.binB (a := b) (b := 115) hF1 rfl rfl rfl rfl rfl (L.assign hF1 rfl rfl rfl (L.nil rfl))) ?_
  refine WmL.nil ?_
  refine WmC.cond rfl (fun hc => ?_) (fun hc => ?_)
  · replace H := condT hc H
    obtain ⟨hg, H⟩ := condG H
    refine WmC.regionL ?_
    refine WmL.take 11 (L.move hF1 rfl rfl rfl (L.move hF1 rfl rfl rfl (L.nilCheck hF1 rfl rfl rfl rfl (L.fieldAddr Tryz.underlying110 rfl info34 rfl hF1 rfl rfl rfl rfl rfl (L.loadPtr shape34 hF1 rfl rfl rfl rfl rfl rfl (L.move hF1 rfl rfl rfl (L.buildSlice (e := eS) 6 ([t] : List (List UInt8)) Tryz.underlying34 info9 rfl rfl rfl hF1 rfl rfl rfl rfl rfl rfl rfl rfl (L.append (xs := s.closed) (ys := ([t] : List (List UInt8))) (e := eS) 7 Tryz.underlying34 info9 rfl rfl hF1 rfl rfl rfl rfl rfl rfl rfl rfl (fun _ => rfl) (fun _ _ h1 h2 => by cases h1; cases h2; rfl) ⟨_, Tryz.underlying34⟩ (of_decide_eq_true hg) rfl rfl (L.nilCheck hF1 rfl rfl rfl rfl (L.fieldAddr Tryz.underlying110 rfl info34 rfl hF1 rfl rfl rfl rfl rfl (L.storePtr shape34 hF1 rfl rfl rfl rfl rfl rfl rfl (L.nil rfl)))))))))))) ?_
    refine WmL.nil ?_
    cases H; subst hs1
    exact fin T1 (M1.as rfl rfl) (Leaves.normal rfl rfl rfl ⟨rfl, rfl⟩)
  · replace H := condF hc H
    cases H; subst hs1
    refine WmC.skip ?_
    exact fin T1 M1 (Leaves.normal rfl rfl rfl ⟨rfl, rfl⟩)

/-! ### sightOf -/
def keysL (ks : List Int) : Nat → Int → Sgt → Option Sgt
  | 0, _, _ => none
  | n + 1, i, s => cond (decide (i < (ks.length : Int))) ((at? ks i).bind fun x => keysL ks n (IntKind.i64.wrap (i + 1)) ⟨s.seen, insN s.reached x, s.closed⟩) (some s)
def passL (k : Nat) (l : List (List UInt8)) : Nat → Int → Bool → Sgt → Option (Bool × Sgt)
  | 0, _, _, _ => none
  | n + 1, i, ag, s => cond (decide (i < (l.length : Int))) ((at? l i).bind fun t => (I_sealed k t).bind fun r => cond (s.reached.contains r.1)
      ((Flook k r.2.1 s).bind fun s => passL k l n (IntKind.i64.wrap (i + 1)) true s)
      (cond (decide ((2 * (s.closed.length + ([t] : List (List UInt8)).length) + 192) * 16 ≤ 281474976710656)) (passL k l n (IntKind.i64.wrap (i + 1)) ag ⟨s.seen, s.reached, s.closed ++ [t]⟩) none)) (some (ag, s))
def roundsL (k : Nat) : Nat → Bool → Sgt → Option Sgt
  | 0, _, _ => none
  | n + 1, ag, s => cond ag ((passL k s.closed k 0 false ⟨s.seen, s.reached, []⟩).bind fun r => roundsL k n r.1 r.2) (some s)
def FsightOf (k : Nat) (x : T_Known) : Option Sgt :=
  (keysL x.Keys k 0 ⟨[], [], []⟩).bind fun s => (lookL (Flook k) x.Terms k 0 s).bind fun s => roundsL k k true s
def SightOut (s' : Sgt) (w w' w1 : World) (MB : List Nat) : Prop := w1 = w' ∧ ∃ b1 b2 o1 o2, MB = [b1, b2] ∧ b1 ≠ b2 ∧ w1.heap[b1]? = some o1 ∧ w1.heap[b2]? = some o2 ∧ MapObj o1 .string (s'.seen.map str) ∧ MapObj o2 dI (s'.reached.map i64)
theorem built110 (b1 b2 : Nat) : Tryz.prog.built 110 [(0, .map (some b1)), (1, .map (some b2))] = some #[.map (some b1), .map (some b2), .slice none 0 0] := by kernel_rfl
/-- What holds while it runs. -/
structure Run (F F' : Fix) (b1 b2 : Nat) (s : Sgt) : Prop where
  u : Under F F'
  M : Maps b1 b2 s F'
  l1 : F.w0.heap.size ≤ b1
  l2 : F.w0.heap.size ≤ b2
theorem Run.hF {F F' : Fix} {b1 b2 : Nat} {s : Sgt} {n : Nat} (r : Run F F' b1 b2 s) (h : F.n = n) : F'.n = n := r.u.n.trans h
theorem Run.hm {F F' : Fix} {b1 b2 : Nat} {s : Sgt} {m : Nat} (r : Run F F' b1 b2 s) (h : MG.Pinned F m []) : MG.Pinned F' m [] := ⟨by rw [r.u.ob]; exact h.ob, by rw [r.u.oh]; exact h.oh⟩
theorem FsightOf_ok (k : Nat) (g0 g1 : Bool) (x : T_Known) (s' : Sgt) (H : FsightOf k x = some s') : HoldsX Tryz.prog 61 [V.agg [Cell.sl g0 (List.map eS x.Terms), Cell.sl g1 (List.map eI x.Keys)]] [] (fun _ _ _ => True) (SightOut s') (fun MB => [V.one (.bx [cM (MB.getD 0 0), cM (MB.getD 1 0), .sl true (s'.closed.map eS)])]) [] := by
  refine HoldsX.intro Tryz.func61 rfl (Nat.le_of_ble_eq_true rfl) (by intro cs hcs; cases hcs) (by intro j hj; simp [V.names, V.cells, cnames, Cell.names] at hj) fun F l hn hm hT hIn => ?_
  have hF : F.n = 85 := hn
  unfold FsightOf at H
  obtain ⟨s1, H1, H⟩ := bindS H
  obtain ⟨s2, H2, H⟩ := bindS H
  refine WmC.seq ?_
  refine WmC.regionL ?_
  refine WmL.take 2 (L.box 10 hF rfl rfl rfl rfl (L.assign hF rfl rfl rfl (L.nil rfl))) ?_
  refine WmL.nil ?_
  refine WmC.seq ?_
  refine WmC.regionL ?_
  refine WmL.makeMap hF rfl rfl fun F1 b1 u1 m1 l1 d1 => ?_
  refine WmL.makeMap (u1.n.trans hF) rfl rfl fun F2 b2 u2 m2 l2 d2 => ?_
  have R : Run F F2 b1 b2 ⟨[], [], []⟩ := ⟨u1.trans u2, ⟨d2 b1 (m1 .string).old, (m1 _).under u2, m2 _⟩, l1, Nat.le_trans u1.size l2⟩
  clear u1 m1 d1 u2 m2 d2
  generalize hs0 : (⟨[], [], []⟩ : Sgt) = s0 at R H1
  have hF2 := R.hF hF
  have hm2 := R.hm hm
  refine WmL.build2 (built110 b1 b2) hF2 rfl rfl rfl rfl ?_
  refine WmL.take 2 (L.box 11 hF2 rfl rfl rfl rfl (L.assign hF2 rfl rfl rfl (L.nil rfl))) ?_
  refine WmL.nil ?_
  refine WmC.seq ?_
  refine WmC.seq ?_
  refine WmC.regionL ?_
  refine WmL.take 4 (L.fieldAddr Tryz.underlying36 rfl info24 rfl hF2 rfl rfl rfl rfl rfl (L.loadPtr shape24 hF2 rfl rfl rfl rfl rfl rfl (L.lenR (xs := x.Keys) (e := eI) Tryz.underlying24 hF2 rfl rfl rfl rfl (L.move hF2 rfl rfl rfl (L.nil rfl))))) ?_
  refine WmL.nil ?_
  refine WmC.block ?_
  refine WmC.loopL (fun n F' σ => ∃ i s, keysL x.Keys n i s = some s1 ∧ Run F F' b1 b2 s ∧ s.closed = [] ∧ σ = mkSt [(1, MG.one (.ptr 0 0)), (3, MG.one (.ptr 1 0)), (20, MG.one (.sl g1 (List.map eI x.Keys))), (21, MG.one (cI (x.Keys.length : Int))), (22, MG.one (cI i))] [] [(0, [.sl g0 (List.map eS x.Terms), .sl g1 (List.map eI x.Keys)]), (1, [cM b1, cM b2, .nil])] 2) k ⟨_, ⟨0, s0, H1, R, by subst hs0; rfl, rfl⟩, ?_⟩ ?_
  · exact Le.mk [(0, 10), (1, 11)] hm2 rfl (Sa4 (Sa1 trivial)) trivial (Ba2 trivial)
  · clear H1
    rintro n F' _ ⟨i, s, H1, R, hcl, rfl⟩
    cases n with
    | zero => cases H1
    | succ n =>
    rw [keysL] at H1
    have hF' := R.hF hF
    have hm' := R.hm hm
    refine WmC.seq ?_
    refine WmC.regionL ?_
    refine WmL.take 1 (L.bin hF' rfl rfl rfl rfl rfl rfl (L.nil rfl)) ?_
    refine WmL.nil ?_
    refine WmC.seq ?_
    refine WmC.cond rfl (fun hc => ?_) (fun hc => ?_)
    · replace H1 := condT hc H1
      obtain ⟨y, hy, H1⟩ := bindS H1
      refine WmC.skip ?_
      refine WmC.seq ?_
      refine WmC.block ?_
      refine WmC.seq ?_
      refine WmC.regionL ?_
      refine WmL.take 3 (L.idxR (xs := x.Keys) (e := eI) Tryz.underlying24 info3 hF' rfl rfl rfl rfl rfl hy rfl rfl (L.loadPe shape3 hF' rfl rfl rfl rfl rfl (L.assign hF' rfl rfl rfl (L.nil rfl)))) ?_
      refine WmL.nil ?_
      refine WmC.regionL ?_
      refine WmL.take 5 (L.move hF' rfl rfl rfl (L.nilCheck hF' rfl rfl rfl rfl (L.fieldAddr Tryz.underlying110 rfl info108 rfl hF' rfl rfl rfl rfl rfl (L.loadPtr shape108 hF' rfl rfl rfl rfl rfl rfl (L.move hF' rfl rfl rfl (L.nil rfl)))))) ?_
      refine WmL.update (s.reached.contains y) Tryz.underlying108 Tryz.underlying3 hF' rfl rfl rfl rfl R.M.m2 rfl hasN fun o2 ho2 => ?_
      have R2 : Run F (F'.setB b2 o2) b1 b2 ⟨s.seen, insN s.reached y, s.closed⟩ := ⟨R.u.setB R.l2, R.M.set2 (by rw [insN_map]; exact ho2) rfl, R.l1, R.l2⟩
      generalize F'.setB b2 o2 = F3 at R2 ⊢
      have hF3 := R2.hF hF
      have hm3 := R2.hm hm
      refine WmL.nil ?_
      refine WmC.regionL ?_
      refine WmL.take 2 (L.bin hF3 rfl rfl rfl rfl rfl rfl (L.move hF3 rfl rfl rfl (L.nil rfl))) ?_
      refine WmL.nil ?_
      exact ⟨n, _, by omega, ⟨_, _, H1, R2, hcl, rfl⟩, Le.mk [(0, 0), (1, 1)] hm3 rfl (Sa4 (Sa1 trivial)) trivial (Ba2 trivial)⟩
    replace H1 := condF hc H1
    cases H1
    refine WmC.exit ?_
    refine WmC.seq ?_
    refine WmC.seq ?_
    refine WmC.regionL ?_
    refine WmL.take 4 (L.fieldAddr Tryz.underlying36 rfl info34 rfl hF' rfl rfl rfl rfl rfl (L.loadPtr shape34 hF' rfl rfl rfl rfl rfl rfl (L.lenR (xs := x.Terms) (e := eS) Tryz.underlying34 hF' rfl rfl rfl rfl (L.move hF' rfl rfl rfl (L.nil rfl))))) ?_
    refine WmL.nil ?_
    refine WmC.block ?_
    refine WmC.le (Le.ownB 1 2 2 1 rfl rfl rfl) ?_
    refine WmC.loopL (fun n F' σ => ∃ i s, lookL (Flook k) x.Terms n i s = some s2 ∧ Run F F' b1 b2 s ∧ σ = mkSt [(3, MG.one (.ptr 1 0)), (33, MG.one (.sl g0 (List.map eS x.Terms))), (34, MG.one (cI (x.Terms.length : Int))), (35, MG.one (cI i))] [(2, ⟨1, s.closed.map eS⟩)] [(1, [cM b1, cM b2, .own 2])] 3) k ⟨_, ⟨0, _, H2, R, rfl⟩, ?_⟩ ?_
    · rw [hcl]; exact Le.mk [(1, 1), (2, 2)] hm' rfl (Sa4 trivial) (Ra1 trivial) (Ba1 trivial)
    clear H2 hF' hm' R hcl
    rintro n F' _ ⟨i, s, H2, R, rfl⟩
    cases n with
    | zero => cases H2
    | succ n =>
    rw [lookL] at H2
    have hF' := R.hF hF
    have hm' := R.hm hm
    refine WmC.seq ?_
    refine WmC.regionL ?_
    refine WmL.take 1 (L.bin hF' rfl rfl rfl rfl rfl rfl (L.nil rfl)) ?_
    refine WmL.nil ?_
    refine WmC.seq ?_
    refine WmC.cond rfl (fun hc => ?_) (fun hc => ?_)
    · replace H2 := condT hc H2
      obtain ⟨y, hy, H2⟩ := bindS H2
      obtain ⟨s3, h3, H2⟩ := bindS H2
      refine WmC.skip ?_
      refine WmC.seq ?_
      refine WmC.block ?_
      refine WmC.seq ?_
      refine WmC.regionL ?_
      refine WmL.take 3 (L.idxR (xs := x.Terms) (e := eS) Tryz.underlying34 info9 hF' rfl rfl rfl rfl rfl hy rfl rfl (L.loadPe shape9 hF' rfl rfl rfl rfl rfl (L.assign hF' rfl rfl rfl (L.nil rfl)))) ?_
      refine WmL.nil ?_
      refine WmC.regionL ?_
      refine WmL.take 2 (L.move hF' rfl rfl rfl (L.move hF' rfl rfl rfl (L.nil rfl))) ?_
      refine WmL.call [false, false] [] [1] 3 hF' rfl rfl rfl ent147 rfl rfl rfl rfl rfl (Flook_ok k y s s3 h3 b1 b2) (fun E hH => R.M.inl hH) (fun _ => rfl) (fun w w1 MB E' hfr ho hH hfree => ?_)
      obtain ⟨rfl, o1, o2, rfl, q1, q2⟩ := ho
      refine ⟨(F'.setB b1 o1).setB b2 o2, fun a sl' hS hP => Rel.setB' (Rel.setB hH hS hP R.M.m1.old) R.M.m2.old.setB, ?_⟩
      have R3 : Run F ((F'.setB b1 o1).setB b2 o2) b1 b2 s3 := ⟨(R.u.setB R.l1).setB R.l2, R.M.set q1 q2, R.l1, R.l2⟩
      generalize (F'.setB b1 o1).setB b2 o2 = F3 at R3 ⊢
      have hF3 := R3.hF hF
      have hm3 := R3.hm hm
      refine WmL.nil ?_
      refine WmC.regionL ?_
      refine WmL.take 2 (L.bin hF3 rfl rfl rfl rfl rfl rfl (L.move hF3 rfl rfl rfl (L.nil rfl))) ?_
      refine WmL.nil ?_
      exact ⟨n, _, by omega, ⟨_, s3, H2, R3, rfl⟩, Le.mk [(1, 1), (2, 5)] hm3 rfl (Sa4 trivial) (Ra1 trivial) (Ba1 trivial)⟩
    replace H2 := condF hc H2
    cases H2
    refine WmC.exit ?_
    refine WmC.seq ?_
    refine WmC.seq ?_
    refine WmC.regionL ?_
    refine WmL.take 1 (L.assign hF' rfl rfl rfl (L.nil rfl)) ?_
    refine WmL.nil ?_
    refine WmC.block ?_
    refine WmC.loopL (fun n F' σ => ∃ ag s, roundsL k n ag s = some s' ∧ Run F F' b1 b2 s ∧ σ = mkSt [(3, MG.one (.ptr 0 0)), (8, MG.one (cL ag))] [(1, ⟨1, s.closed.map eS⟩)] [(0, [cM b1, cM b2, .own 1])] 2) k ⟨_, ⟨true, _, H, R, rfl⟩, Le.mk [(0, 1), (1, 2)] hm' rfl (Sa2 trivial) (Ra1 trivial) (Ba1 trivial)⟩ ?_
    clear H hF' hm' R
    rintro n F' _ ⟨ag, s, H, R, rfl⟩
    cases n with
    | zero => cases H
    | succ n =>
    rw [roundsL] at H
    have hF' := R.hF hF
    have hm' := R.hm hm
    refine WmC.seq ?_
    refine WmC.seq ?_
    refine WmC.regionL ?_
    refine WmL.take 1 (L.move hF' rfl rfl rfl (L.nil rfl)) ?_
    refine WmL.nil ?_
    refine WmC.cond rfl (fun hc => ?_) (fun hc => ?_)
    · replace H := condT hc H
      obtain ⟨r, hr, H⟩ := bindS H
      refine WmC.skip ?_
      refine WmC.block ?_
      refine WmC.seq ?_
      refine WmC.regionL ?_
      refine WmL.take 1 (L.assign hF' rfl rfl rfl (L.nil rfl)) ?_
      refine WmL.nil ?_
      refine WmC.seq ?_
      refine WmC.regionL ?_
      refine WmL.take 5 (L.move hF' rfl rfl rfl (L.nilCheck hF' rfl rfl rfl rfl (L.fieldAddr Tryz.underlying110 rfl info34 rfl hF' rfl rfl rfl rfl rfl (L.loadPtr shape34 hF' rfl rfl rfl rfl rfl rfl (L.assign hF' rfl rfl rfl (L.nil rfl)))))) ?_
      refine WmL.nil ?_
      refine WmC.seq ?_
      refine WmC.regionL ?_
      refine WmL.take 4 (L.move hF' rfl rfl rfl (L.nilCheck hF' rfl rfl rfl rfl (L.fieldAddr Tryz.underlying110 rfl info34 rfl hF' rfl rfl rfl rfl rfl (L.storePtr shape34 hF' rfl rfl rfl rfl rfl rfl rfl (L.nil rfl))))) ?_
      refine WmL.nil ?_
      refine WmC.seq ?_
      refine WmC.regionL ?_
      refine WmL.take 3 (L.move hF' rfl rfl rfl (L.lenR (xs := s.closed) (e := eS) Tryz.underlying34 hF' rfl rfl rfl rfl (L.move hF' rfl rfl rfl (L.nil rfl)))) ?_
      refine WmL.nil ?_
      refine WmC.block ?_
      refine WmC.le (Le.ownB 0 2 2 1 rfl rfl rfl) ?_
      have R0 : Run F F' b1 b2 ⟨s.seen, s.reached, []⟩ := ⟨R.u, R.M.as rfl rfl, R.l1, R.l2⟩
      refine WmC.loopL (fun m F' σ => ∃ i ag s2, passL k s.closed m i ag s2 = some r ∧ Run F F' b1 b2 s2 ∧ σ = mkSt [(3, MG.one (.ptr 0 0)), (8, MG.one (cL ag)), (51, MG.one (.own 1)), (52, MG.one (cI (s.closed.length : Int))), (53, MG.one (cI i))] [(1, ⟨1, s.closed.map eS⟩), (2, ⟨1, s2.closed.map eS⟩)] [(0, [cM b1, cM b2, .own 2])] 3) k ⟨_, ⟨0, false, _, hr, R0, rfl⟩, Le.mk [(0, 0), (1, 1), (2, 2)] hm' rfl (Sa4 (Sa1 trivial)) (Ra2 trivial) (Ba1 trivial)⟩ ?_
      clear hr hF' hm' R0
      rintro m F2 _ ⟨i, ag, s2, hr, R2, rfl⟩
      cases m with
      | zero => cases hr
      | succ m =>
      rw [passL] at hr
      have hF2 := R2.hF hF
      have hm2 := R2.hm hm
      refine WmC.seq ?_
      refine WmC.regionL ?_
      refine WmL.take 1 (L.bin hF2 rfl rfl rfl rfl rfl rfl (L.nil rfl)) ?_
      refine WmL.nil ?_
      refine WmC.seq ?_
      refine WmC.cond rfl (fun hc => ?_) (fun hc => ?_)
      · replace hr := condT hc hr
        obtain ⟨t, ht, hr⟩ := bindS hr
        obtain ⟨q, hq, hr⟩ := bindS hr
        refine WmC.skip ?_
        refine WmC.seq ?_
        refine WmC.block ?_
        refine WmC.seq ?_
        refine WmC.regionL ?_
        refine WmL.take 3 (L.idxR (xs := s.closed) (e := eS) Tryz.underlying34 info9 hF2 rfl rfl rfl rfl rfl ht rfl rfl (L.loadEp (xs := s.closed) (e := eS) shape9 hF2 rfl rfl rfl rfl (at?_get ht).2 rfl rfl (L.assign hF2 rfl rfl rfl (L.nil rfl)))) ?_
        refine WmL.nil ?_
        refine WmC.seq ?_
        refine WmC.regionL ?_
        refine WmL.take 9 (L.move hF2 rfl rfl rfl (L.call [false] [] [] 3 hF2 rfl rfl rfl ent148 rfl rfl rfl rfl rfl (g148 k t q hq) rfl (L.move hF2 rfl rfl rfl (L.extract hF2 rfl rfl rfl rfl (L.extract hF2 rfl rfl rfl rfl (L.extract hF2 rfl rfl rfl rfl (L.assign hF2 rfl rfl rfl (L.assign hF2 rfl rfl rfl (L.assign hF2 rfl rfl rfl (L.nil rfl)))))))))) ?_
        refine WmL.nil ?_
        refine WmC.seq ?_
        refine WmC.regionL ?_
        refine WmL.take 5 (L.move hF2 rfl rfl rfl (L.nilCheck hF2 rfl rfl rfl rfl (L.fieldAddr Tryz.underlying110 rfl info108 rfl hF2 rfl rfl rfl rfl rfl (L.loadPtr shape108 hF2 rfl rfl rfl rfl rfl rfl (L.move hF2 rfl rfl rfl (L.nil rfl)))))) ?_
        refine WmL.lookup (s2.reached.contains q.1) Tryz.underlying108 Tryz.underlying3 z3 hF2 rfl rfl rfl rfl R2.M.m2 rfl hasN ?_
        refine WmL.take 1 (L.bin hF2 rfl rfl rfl rfl rfl rfl (L.nil rfl)) ?_
        refine WmL.nil ?_
        refine WmC.cond rfl (fun hc => ?_) (fun hc => ?_)
        · have hs : s2.reached.contains q.1 = true := by revert hc; cases s2.reached.contains q.1 <;> intro hc <;> first | rfl | cases hc
          rw [hs] at hr
          obtain ⟨s3, h3, hr⟩ := bindS (show Option.bind _ _ = _ from hr)
          refine WmC.seq ?_
          refine WmC.regionL ?_
          refine WmL.take 2 (L.move hF2 rfl rfl rfl (L.move hF2 rfl rfl rfl (L.nil rfl))) ?_
          refine WmL.call [false, false] [] [0] 10 hF2 rfl rfl rfl ent147 rfl rfl rfl rfl rfl (Flook_ok k q.2.1 s2 s3 h3 b1 b2) (fun E hH => R2.M.inl hH) (fun _ => rfl) (fun w w1 MB E' hfr ho hH hfree => ?_)
          obtain ⟨rfl, o1, o2, rfl, q1, q2⟩ := ho
          refine ⟨(F2.setB b1 o1).setB b2 o2, fun a sl' hS hP => Rel.setB' (Rel.setB hH hS hP R2.M.m1.old) R2.M.m2.old.setB, ?_⟩
          have R3 : Run F ((F2.setB b1 o1).setB b2 o2) b1 b2 s3 := ⟨(R2.u.setB R2.l1).setB R2.l2, R2.M.set q1 q2, R2.l1, R2.l2⟩
          generalize (F2.setB b1 o1).setB b2 o2 = F3 at R3 ⊢
          have hF3 := R3.hF hF
          have hm3 := R3.hm hm
          refine WmL.nil ?_
          refine WmC.regionL ?_
          refine WmL.take 1 (L.assign hF3 rfl rfl rfl (L.nil rfl)) ?_
          refine WmL.nil ?_
          refine WmC.regionL ?_
          refine WmL.take 2 (L.bin hF3 rfl rfl rfl rfl rfl rfl (L.move hF3 rfl rfl rfl (L.nil rfl))) ?_
          refine WmL.nil ?_
          exact ⟨m, _, by omega, ⟨_, true, s3, hr, R3, rfl⟩, Le.mk [(0, 0), (1, 1), (2, 12)] hm3 rfl (Sa4 (Sa1 trivial)) (Ra2 trivial) (Ba1 trivial)⟩
        · have hs : s2.reached.contains q.1 = false := by revert hc; cases s2.reached.contains q.1 <;> intro hc <;> first | rfl | cases hc
          rw [hs] at hr
          obtain ⟨hg, hr⟩ := condG (show cond _ _ none = _ from hr)
          refine WmC.regionL ?_
          refine WmL.take 11 (L.move hF2 rfl rfl rfl (L.move hF2 rfl rfl rfl (L.nilCheck hF2 rfl rfl rfl rfl (L.fieldAddr Tryz.underlying110 rfl info34 rfl hF2 rfl rfl rfl rfl rfl (L.loadPtr shape34 hF2 rfl rfl rfl rfl rfl rfl (L.move hF2 rfl rfl rfl (L.buildSlice (e := eS) 10 ([t] : List (List UInt8)) Tryz.underlying34 info9 rfl rfl rfl hF2 rfl rfl rfl rfl rfl rfl rfl rfl (L.append (xs := s2.closed) (ys := ([t] : List (List UInt8))) (e := eS) 11 Tryz.underlying34 info9 rfl rfl hF2 rfl rfl rfl rfl rfl rfl rfl rfl (fun _ => rfl) (fun _ _ h1 h2 => by cases h1; cases h2; rfl) ⟨_, Tryz.underlying34⟩ (of_decide_eq_true hg) rfl rfl (L.nilCheck hF2 rfl rfl rfl rfl (L.fieldAddr Tryz.underlying110 rfl info34 rfl hF2 rfl rfl rfl rfl rfl (L.storePtr shape34 hF2 rfl rfl rfl rfl rfl rfl rfl (L.nil rfl)))))))))))) ?_
          refine WmL.nil ?_
          refine WmC.regionL ?_
          refine WmL.take 2 (L.bin hF2 rfl rfl rfl rfl rfl rfl (L.move hF2 rfl rfl rfl (L.nil rfl))) ?_
          refine WmL.nil ?_
          exact ⟨m, _, by omega, ⟨_, ag, ⟨s2.seen, s2.reached, s2.closed ++ [t]⟩, hr, ⟨R2.u, R2.M.as rfl rfl, R2.l1, R2.l2⟩, rfl⟩, Le.mk [(0, 0), (1, 1), (2, 11)] hm2 rfl (Sa4 (Sa1 trivial)) (Ra2 trivial) (Ba1 trivial)⟩
      · replace hr := condF hc hr
        cases hr
        refine WmC.exit ?_
        exact ⟨n, _, by omega, ⟨_, _, H, R2, rfl⟩, Le.mk [(0, 0), (1, 2)] hm2 rfl (Sa2 trivial) (Ra1 trivial) (Ba1 trivial)⟩
    replace H := condF hc H
    cases H
    refine WmC.exit ?_
    refine WmC.seq ?_
    refine WmC.regionL ?_
    refine WmL.take 2 (L.move hF' rfl rfl rfl (L.assign hF' rfl rfl rfl (L.nil rfl))) ?_
    refine WmL.nil ?_
    refine WmC.le (Le.shareAll 1 rfl) ?_
    refine WmC.ret ⟨[b1, b2], Leaves.ret rfl rfl rfl ⟨rfl, rfl⟩, fun a w1 hr => ?_⟩
    obtain ⟨E, rfl, hH, hS, hP⟩ := hr
    have f1 := R.M.m1.old.free hH
    have f2 := R.M.m2.old.free hH
    obtain ⟨o1, p1, q1⟩ := R.M.m1.now hH
    obtain ⟨o2, p2, q2⟩ := R.M.m2.now hH
    refine ⟨E, R.u.relH hH, hS.refix R.u.n.symm, hP.refix R.u.ob.symm R.u.oh.symm, ⟨rfl, b1, b2, o1, o2, rfl, R.M.ne, p1, p2, q1, q2⟩, fun v hv => hv, fun b hb => ?_⟩
    rcases List.mem_cons.1 hb with rfl | hb
    · exact ⟨R.l1, f1.2.2.1, f1.2.1, f1.1⟩
    · obtain rfl : b = b2 := by simpa using hb
      exact ⟨R.l2, f2.2.2.1, f2.2.1, f2.1⟩

/-! ### Reach -/
def I_Reach (k : Nat) (a0 : T_Known) : Option (List Int) := (I_KnownOk k a0).bind fun r => cond (!r) (some []) ((FsightOf k a0).bind fun s =>
  cond (decide ((2 * s.reached.length + 192) * 8 ≤ 281474976710656)) (V_Sort_int k s.reached) none)
def keyI (e : MapEntry) : Int := match e.key with
  | .int _ n => n
  | _ => 0
theorem filter_perm {e : MapEntry} {p q : MapEntry → Bool} : ∀ {l : List MapEntry}, (∀ x ∈ l, q x = (p x && x.born != e.born)) → (l.map (·.born)).Nodup → e ∈ l → p e = true → (l.filter p).Perm (e :: l.filter q)
  | x :: l, hq, hn, he, hp => by
    have hn' := List.nodup_cons.1 hn
    by_cases hx : x.born = e.born
    · have hxe : x = e := by
        rcases List.mem_cons.1 he with h | h
        · exact h.symm
        · exact absurd (List.mem_map.2 ⟨e, h, hx.symm⟩) hn'.1
      subst hxe
      have h1 : q x = false := by rw [hq x (by simp)]; simp
      have h2 : l.filter p = l.filter q := by
        refine List.filter_congr fun y hy => ?_
        have hne : y.born ≠ x.born := fun h => hn'.1 (List.mem_map.2 ⟨y, hy, h⟩)
        rw [hq y (by simp [hy])]; simp [hne]
      simp [List.filter_cons, hp, h1, h2]
    · have h1 : q x = p x := by rw [hq x (by simp)]; simp [hx]
      have he' : e ∈ l := by
        rcases List.mem_cons.1 he with h | h
        · exact absurd (h ▸ rfl) hx
        · exact h
      have ih := filter_perm (l := l) (fun y hy => hq y (by simp [hy])) hn'.2 he' hp
      cases hpx : p x with
      | true =>
        simp only [List.filter_cons, h1, hpx, if_true]
        exact (ih.cons x).trans (List.Perm.swap _ _ _)
      | false => simpa [List.filter_cons, h1, hpx] using ih
theorem left_perm {es : Array MapEntry} {seen : Array Nat} {e : MapEntry} (hn : (es.toList.map (·.born)).Nodup) (he : e ∈ (leftOf es seen).toList) : (leftOf es seen).toList.Perm (e :: (leftOf es (seen.push e.born)).toList) := by
  have h1 := mem_left he
  unfold leftOf
  rw [Array.toList_filter, Array.toList_filter]
  refine filter_perm (fun x hx => ?_) hn h1.1 (by rw [h1.2]; rfl)
  rw [contains_push]
  cases seen.contains x.born <;> cases h : (x.born == e.born) <;> simp [bne, h]
theorem sort_perm {l l' : List Int} (h : l.Perm l') : l.mergeSort (fun x y => decide (x ≤ y)) = l'.mergeSort (fun x y => decide (x ≤ y)) := by
  have s : ∀ l : List Int, (l.mergeSort (fun x y => decide (x ≤ y))).Pairwise (fun x y => x ≤ y) := fun l => by
    have := List.pairwise_mergeSort (le := fun x y : Int => decide (x ≤ y)) (fun a b c h1 h2 => by simp at *; omega) (fun a b => by simp; omega) l
    exact this.imp fun h => by simpa using h
  refine List.Perm.eq_of_pairwise (le := fun x y => x ≤ y) (fun a b _ _ h1 h2 => by omega) (s l) (s l') ?_
  exact (List.mergeSort_perm l _).trans (h.trans (List.mergeSort_perm l' _).symm)
theorem g18 (k : Nat) (g0 : Bool) (g1 : Bool) (a0 : T_Known) (r : List Int) (H : I_Reach k a0 = some r) : Gives Tryz.prog 18 [V.agg [Cell.sl g0 (List.map eS a0.Terms), Cell.sl g1 (List.map eI a0.Keys)]] [] [V.one (Cell.ow 1 (List.map eI r))] [] := by
  refine Gives.ofX (HoldsX.intro Tryz.func18 rfl (Nat.le_of_ble_eq_true rfl) (by intro cs hcs; cases hcs) (by intro j hj; simp [V.names, V.cells, cnames, Cell.names] at hj) fun F l hn hm hT hIn => ?_)
  have hF : F.n = 27 := hn
  have fin : ∀ {F' : Fix} {σ : St} {e : Exit}, Under F F' → MG.Leaves Tryz.prog Tryz.f18 0 [] (fun r' o b => r' = [V.one (Cell.ow 1 (List.map eI r))] ∧ o = [] ∧ b = []) e σ → ∃ MB : List Nat, MG.Leaves Tryz.prog Tryz.f18 0 [] (fun r' o b => r' = [V.one (Cell.ow 1 (List.map eI r))] ∧ o = [] ∧ b = []) e σ ∧ ∀ a w1, Rel F' σ a w1 → ∃ E : Env, RelH F σ.H E ∧ RelS F σ.slots σ.H a E ∧ Pin F σ.H E ∧ (w1 = E.w ∧ MB = []) ∧ (∀ v, (results Tryz.f18 a.tmps).run Tryz.prog E.w = .ok v E.w → (results Tryz.f18 a.tmps).run Tryz.prog w1 = .ok v w1) ∧ (∀ b ∈ MB, F.w0.heap.size ≤ b ∧ b < E.w.heap.size ∧ (∀ g, ¬ E.S g b) ∧ ∀ k, ¬ Own E k b) := by
    intro F' σ e u hl
    refine ⟨[], hl, fun a w1 hr => ?_⟩
    obtain ⟨E, rfl, hH, hS, hP⟩ := u.rel hr
    exact ⟨E, hH, hS, hP, ⟨rfl, rfl⟩, fun v hv => hv, fun b hb => by cases hb⟩
  unfold I_Reach at H
  obtain ⟨r0, h0, H⟩ := bindS H
  refine WmC.seq ?_
  refine WmC.regionL ?_
  refine WmL.take 2 (L.box 10 hF rfl rfl rfl rfl (L.assign hF rfl rfl rfl (L.nil rfl))) ?_
  refine WmL.nil ?_
  refine WmC.seq ?_
  refine WmC.regionL ?_
  refine WmL.take 2 (L.buildSlice (e := eI) 11 ([] : List Int) Tryz.underlying24 info3 rfl rfl rfl hF rfl rfl rfl rfl rfl rfl rfl rfl (L.assign hF rfl rfl rfl (L.nil rfl))) ?_
  refine WmL.nil ?_
  refine WmC.seq ?_
  refine WmC.seq ?_
  refine WmC.regionL ?_
  refine WmL.take 3 (L.loadPtr shape36 hF rfl rfl rfl rfl rfl rfl (L.call [false] [] [] 12 hF rfl rfl rfl ent60 rfl rfl rfl rfl rfl (g60 k g0 g1 a0 r0 h0) rfl (L.not hF rfl rfl rfl (L.nil rfl)))) ?_
  refine WmL.nil ?_
  refine WmC.cond rfl (fun hc => ?_) (fun hc => ?_)
  · replace H := condT hc H
    cases H
    refine WmC.seq ?_
    refine WmC.regionL ?_
    refine WmL.take 2 (L.move hF rfl rfl rfl (L.assign hF rfl rfl rfl (L.nil rfl))) ?_
    refine WmL.nil ?_
    exact WmC.ret (fin Under.refl (Leaves.ret rfl rfl rfl ⟨rfl, rfl⟩))
  replace H := condF hc H
  obtain ⟨s, hs, H⟩ := bindS H
  obtain ⟨hg, H⟩ := condG H
  refine WmC.skip ?_
  refine WmC.seq ?_
  refine WmC.seq ?_
  refine WmC.regionL ?_
  refine WmL.take 1 (L.loadPtr shape36 hF rfl rfl rfl rfl rfl rfl (L.nil rfl)) ?_
  refine WmL.call [false] [] [] 13 hF rfl rfl rfl ent61 rfl rfl rfl rfl rfl (FsightOf_ok k g0 g1 a0 s hs) (fun E hH S T _ _ => trivial) (fun _ => rfl) (fun w w1 MB E' hfr ho hH hfree => ?_)
  obtain ⟨rfl, b1, b2, o1, o2, rfl, hne, p1, p2, q1, q2⟩ := ho
  have fb := hfree b2 (by simp)
  have hol : Old (F.rebase E') b2 := ⟨fb.2.2.1, fun ⟨j, hj⟩ => fb.2.1 j hj, fb.1⟩
  have hu : Under F (F.rebase E') := Under.rebase hH
  refine ⟨F.rebase E', fun a sl' hS hP => ⟨E', rfl, hH.rebase, RelS.refix (F := F) rfl hS, Pin.refix (F := F) rfl rfl hP⟩, ?_⟩
  have p2' : (F.rebase E').w0.heap[b2]? = some o2 := p2
  generalize F.rebase E' = F1 at hol hu p2' ⊢
  have hF1 : F1.n = 27 := hu.n.trans hF
  refine WmL.take 3 (L.nilCheck hF1 rfl rfl rfl rfl (L.fieldAddr Tryz.underlying110 rfl info108 rfl hF1 rfl rfl rfl rfl rfl (L.loadPtr shape108 hF1 rfl rfl rfl rfl rfl rfl (L.nil rfl)))) ?_
  obtain ⟨es, clock, rfl, hst, hks, hkeys, hv⟩ := q2
  refine WmL.range (b := b2) Tryz.underlying108 hF1 rfl rfl rfl hol p2' hst fun F2 rr u2 hI lr => ?_
  have hF2 : F2.n = 27 := u2.n.trans hF1
  have hu2 := hu.trans u2
  have hkv : ∀ e ∈ es.toList, e.key = i64 (keyI e) := fun e he => by
    have : e.key ∈ s.reached.map i64 := hkeys ▸ List.mem_map_of_mem (f := (·.key)) he
    obtain ⟨n, _, hn⟩ := List.mem_map.1 this
    simp only [keyI, ← hn]
  have himm : ∀ e ∈ es.toList, isImm e.key = true ∧ isImm e.val = true := fun e he => by rw [hkv e he, hv e he]; exact ⟨rfl, rfl⟩
  have hkl : es.toList.map keyI = s.reached := by
    have : (es.toList.map keyI).map i64 = s.reached.map i64 := by rw [← hkeys, List.map_map]; exact List.map_congr_left fun e he => (hkv e he).symm
    exact (List.map_inj_right (fun _ _ h => i64_inj h)).1 this
  have hm2 : MG.Pinned F2 0 [] := ⟨by rw [hu2.ob]; exact hm.ob, by rw [hu2.oh]; exact hm.oh⟩
  have hm0 := hm
  refine WmL.nil ?_
  refine WmC.block ?_
  refine WmC.loopL (fun n F' σ => ∃ seen out, n = (leftOf es seen).size ∧ OldI F' rr b2 es seen ∧ Under F F' ∧ (out ++ (leftOf es seen).toList.map keyI).Perm s.reached ∧ σ = mkSt [(3, MG.one (.own 0)), (15, MG.one (.raw (.pointer (some ⟨rr, 0, none⟩))))] [(0, ⟨1, List.map eI out⟩)] [] 1) (leftOf es #[]).size ⟨_, ⟨#[], ([] : List Int), rfl, hI, hu2, ?_, rfl⟩, Le.mk [(0, 11)] hm2 rfl (Sa2 trivial) (Ra1 trivial) trivial⟩ ?_
  · rw [← hkl]
    have : (leftOf es #[]).toList = es.toList := by unfold leftOf; rw [Array.toList_filter]; simp
    rw [this]; simp
  rintro n F' _ ⟨seen, out, hnn, hI', u', hp, rfl⟩
  have hF' : F'.n = 27 := u'.n.trans hF
  have hm' : MG.Pinned F' 0 [] := ⟨by rw [u'.ob]; exact hm0.ob, by rw [u'.oh]; exact hm0.oh⟩
  refine WmC.seq ?_
  refine WmC.regionL ?_
  refine WmL.next hF' rfl rfl rfl hI' himm (fun hz => ?_) (fun e he o hI2 => ?_)
  · refine WmL.take 1 (L.extract hF' rfl rfl rfl rfl (L.nil rfl)) ?_
    refine WmL.nil ?_
    refine WmC.seq ?_
    refine WmC.cond rfl (fun hc => by cases hc) (fun hc => ?_)
    refine WmC.exit ?_
    have hlz : (leftOf es seen).toList = [] := by apply List.eq_nil_of_length_eq_zero; simpa using hz
    rw [hlz] at hp
    have hp' : out.Perm s.reached := by simpa using hp
    have hso : V_Sort_int k out = some r := by
      rw [← H]; unfold V_Sort_int
      rw [sort_perm hp', hp'.length_eq]
    refine WmC.seq ?_
    refine WmC.regionL ?_
    refine WmL.take 2 (L.move hF' rfl rfl rfl (L.callB [true] [] [] 1 [0] hF' rfl rfl rfl ent62 rfl rfl rfl rfl rfl (V_Sort_int_gives k out r hso) rfl rfl rfl (L.nil rfl))) ?_
    refine WmL.nil ?_
    refine WmC.seq ?_
    refine WmC.regionL ?_
    refine WmL.take 2 (L.move hF' rfl rfl rfl (L.assign hF' rfl rfl rfl (L.nil rfl))) ?_
    refine WmL.nil ?_
    exact WmC.ret (fin u' (Leaves.ret rfl rfl rfl ⟨rfl, rfl⟩))
  · have hme := mem_left he
    have hke := hkv e hme.1
    have lr' : F.w0.heap.size ≤ rr := Nat.le_trans hu.size lr
    have u3 : Under F (F'.setB rr o) := u'.setB lr'
    have hF3 : (F'.setB rr o).n = 27 := hF'
    have hm3 : MG.Pinned (F'.setB rr o) 0 [] := ⟨hm'.ob, hm'.oh⟩
    have hsh := left_shrinks es seen e he
    have hpl := left_perm hst.2.1 he
    rw [hke]
    generalize F'.setB rr o = F3 at hI2 u3 hF3 hm3 ⊢
    refine WmL.take 1 (L.extract hF3 rfl rfl rfl rfl (L.nil rfl)) ?_
    refine WmL.nil ?_
    refine WmC.seq ?_
    refine WmC.cond rfl (fun hc => ?_) (fun hc => by cases hc)
    refine WmC.skip ?_
    refine WmC.block ?_
    refine WmC.seq ?_
    refine WmC.regionL ?_
    refine WmL.entry hF3 rfl rfl rfl hI2 hme.1 himm ?_
    rw [hke]
    refine WmL.take 2 (L.extract hF3 rfl rfl rfl rfl (L.assign hF3 rfl rfl rfl (L.nil rfl))) ?_
    refine WmL.nil ?_
    refine WmC.regionL ?_
    have hlen : (2 * (out.length + ([keyI e] : List Int).length) + 192) * 8 ≤ 281474976710656 := by
      have h1 := hp.length_eq
      have h2 := of_decide_eq_true hg
      have h3 := hpl.length_eq
      simp at h1 h3 ⊢
      omega
    refine WmL.take 5 (L.move hF3 rfl rfl rfl (L.move hF3 rfl rfl rfl (L.buildSlice (e := eI) 2 ([keyI e] : List Int) Tryz.underlying24 info3 rfl rfl rfl hF3 rfl rfl rfl rfl rfl rfl rfl rfl (L.append (xs := out) (ys := ([keyI e] : List Int)) (e := eI) 3 Tryz.underlying24 info3 rfl rfl hF3 rfl rfl rfl rfl rfl rfl rfl rfl (fun _ => rfl) (fun _ _ h1 h2 => by cases h1; cases h2; rfl) ⟨_, Tryz.underlying24⟩ hlen rfl rfl (L.assign hF3 rfl rfl rfl (L.nil rfl)))))) ?_
    refine WmL.nil ?_
    refine ⟨(leftOf es (seen.push e.born)).size, _, by omega, ⟨seen.push e.born, out ++ [keyI e], rfl, hI2, u3, ?_, rfl⟩, Le.mk [(0, 3)] hm3 rfl (Sa2 trivial) (Ra1 trivial) trivial⟩
    refine List.Perm.trans ?_ hp
    rw [List.append_assoc]
    refine List.Perm.append_left _ ?_
    exact (hpl.map keyI).symm

/-! ### I_Find_1 -/
def I_Find_1 (k : Nat) (a0 : T_Event) (o0 : Int) : Option Bool := some (a0.Key == o0)
theorem ent59 : MG.Enters Tryz.prog 59 := en func59
theorem g59 (k : Nat) (a0 : T_Event) (o0 : Int) (r : Bool) (H : I_Find_1 k a0 o0 = some r) : Gives Tryz.prog 59 [V.agg (bT_Event a0), V.one (Cell.ptr 0 0)] [[cI o0]] [V.one (cL r)] [[cI o0]] := by
 refine Gives.intro func59 rfl rfl rfl rfl ?_; refine fx fun w0 T S0 ob oh hm => ?_
 have hF := fxe w0 T S0 8 ob oh
 unfold I_Find_1 at H; obtain ⟨K, hK⟩ := leK k; refine sr ?_; refine bo 14 ?_; refine gn 1 ?_; refine sg 5 ?_; cases H; exact WpC.ret rt
/-! ### V_IndexFunc_Event__impl_Find_1 -/
def V_IndexFunc_Event__impl_Find_1.l2 : Nat → (List T_Event) → Int → Int → Int → Option (Int × Int)
 | 0, _, _, _, _ => none
 | k2 + 1, v39, v40, v41, v42 => cond (decide (v41 < v40)) ((at? v39 v41).bind fun b45 => (I_Find_1 k2 b45 v42).bind fun r46 => cond r46 (some (v41, v42)) ((V_IndexFunc_Event__impl_Find_1.l2 k2) v39 v40 (IntKind.i64.wrap (v41 + 1)) v42)) (some ((-1), v42))
def V_IndexFunc_Event__impl_Find_1 (k : Nat) (a0 : List T_Event) (o0 : Int) : Option (Int × Int) := V_IndexFunc_Event__impl_Find_1.l2 k a0 (a0.length : Int) 0 o0
theorem ent58 : MG.Enters Tryz.prog 58 := en func58
theorem g58 (k : Nat) (g0 : Bool) (a0 : List T_Event) (o0 : Int) (r : Int × Int) (H : V_IndexFunc_Event__impl_Find_1 k a0 o0 = some r) : Gives Tryz.prog 58 [V.one (Cell.sl g0 (List.map eT_Event a0)), V.one (Cell.clo 59 [Cell.ptr 0 0])] [[cI o0]] [V.one (cI r.1)] [[cI r.2]] := by
 refine Gives.intro func58 rfl rfl rfl rfl ?_; refine fx fun w0 T S0 ob oh hm => ?_
 have hF := fxe w0 T S0 19 ob oh
 unfold V_IndexFunc_Event__impl_Find_1 at H; obtain ⟨K, hK⟩ := leK k; refine sg 1 ?_; refine WpC.seq (sr ?_); refine mv ?_; refine L.lenR (xs := a0) (e := eT_Event) underlying40 hF rfl rfl rfl rfl ?_; refine gn 1 ?_; refine WpC.block ?_; refine WpC.loopL (P := Tryz.prog) (fun n σ => ∃ (v39 : List T_Event) (v40 v41 v42 : Int), n ≤ K ∧ V_IndexFunc_Event__impl_Find_1.l2 n v39 v40 v41 v42 = some r ∧ σ = mkSt [(0, MG.one (Cell.sl g0 (List.map eT_Event v39))), (1, MG.one (Cell.clo 59 [Cell.ptr 0 0])), (7, oI v40), (8, oI v41)] [] [(0, [cI v42])] 1) k ⟨_, ⟨a0, (a0.length : Int), 0, o0, by omega, H, rfl⟩, lm [(0, 0)] hm⟩ ?_; clear H
 rintro k2 _ ⟨v39, v40, v41, v42, hk2, H, rfl⟩
 cases k2 with
 | zero => cases H
 | succ k2 =>
  rw [V_IndexFunc_Event__impl_Find_1.l2] at H
  refine sg 1 ?_; refine WpC.seq ?_; refine cd H (fun hc H => ?_) (fun hc H => ?_)
  ·refine WpC.skip (WpC.seq (WpC.block (sr ?_))); refine gn 2 ?_; refine sy 3 ?_; obtain ⟨b45, hb45, H⟩ := bindS H; refine ix underlying40 info47 hb45 ?_; refine le shape47 ?_; obtain ⟨r46, hr46, H⟩ := bindS H; refine ca [false] [] [0] 1 ent59 (g59 k2  b45 v42 r46 hr46) (L.nil ?_); refine cd H (fun hc H => ?_) (fun hc H => ?_)
   ·refine sg 2 ?_; cases H; exact WpC.ret rt
   ·refine WpC.skip (WpC.regionL ?_); refine gn 2 ?_; exact ⟨k2, _, by omega, ⟨v39, v40, (IntKind.i64.wrap (v41 + 1)), v42, by omega, H, rfl⟩, lm [(0, 0)] hm⟩
  ·refine WpC.exit (sr ?_); refine gn 1 ?_; cases H; exact WpC.ret rt
/-! ### I_Find -/
def I_Find (k : Nat) (a0 : List T_Event) (a1 : Int) : Option Int := (V_IndexFunc_Event__impl_Find_1 k a0 a1).bind fun r1 => some r1.1
theorem ent17 : MG.Enters Tryz.prog 17 := en func17
theorem g17 (k : Nat) (g0 : Bool) (a0 : List T_Event) (a1 r : Int) (H : I_Find k a0 a1 = some r) : Gives Tryz.prog 17 [V.one (Cell.sl g0 (List.map eT_Event a0)), V.one (cI a1)] [] [V.one (cI r)] [] := by
 refine Gives.intro func17 rfl rfl rfl rfl ?_; refine fx fun w0 T S0 ob oh hm => ?_
 have hF := fxe w0 T S0 8 ob oh
 unfold I_Find at H; obtain ⟨K, hK⟩ := leK k; refine sr ?_; refine bo 2 ?_; refine gn 1 ?_; refine sy 1 ?_; refine L.makeFunc hF rfl rfl rfl ?_; obtain ⟨r1, hr1, H⟩ := bindS H; refine ca [false, false] [] [2] 3 ent58 (g58 k g0 a0 a1 r1 hr1) ?_; refine gn 1 ?_; cases H; exact WpC.ret rt
/-! ### I_rooted -/
def I_rooted.j2 (k : Nat) (v16 : T_Event) (v17 : Bool) : Option Bool := cond v17 ((I_isService k v16.Service).bind fun r18 => some r18) (cond (v16.Kind == 3) ((I_isRealm k v16.Realm).bind fun r21 => cond r21 ((I_within k v16.Service 10 12).bind fun r22 => some r22) (some false)) (some false))
def I_rooted (k : Nat) (a0 : T_Event) : Option Bool := cond (a0.Kind == 1) ((I_isPrincipal k a0.By).bind fun r14 => cond r14 ((I_isRealm k a0.Realm).bind fun r15 => some r15) (some false)) (cond (a0.Kind == 2) (I_rooted.j2 k a0 (a0.Kind == 2)) (I_rooted.j2 k a0 (a0.Kind == 4)))
theorem ent123 : MG.Enters Tryz.prog 123 := en func123
theorem g123 (k : Nat) (a0 : T_Event) (r : Bool) (H : I_rooted k a0 = some r) : Gives Tryz.prog 123 [V.agg (bT_Event a0)] [] [V.one (cL r)] [] := by
 refine Gives.intro func123 rfl rfl rfl rfl ?_; refine fx fun w0 T S0 ob oh hm => ?_
 have hF := fxe w0 T S0 31 ob oh
 unfold I_rooted at H; obtain ⟨K, hK⟩ := leK k; refine sr ?_; refine bo 11 ?_; refine gn 1 ?_; refine WpC.seq (sr ?_); refine gn 2 ?_; refine WpC.block (sr ?_); refine gn 2 ?_; refine cd H (fun hc H => ?_) (fun hc H => ?_)
 ·refine sy 2 ?_; refine cB 12 ent67 (g67 k  a0.By) H fun r14 H => ?_; refine mv ?_; refine sH H (fun hc H => ?_) (fun hc H => ?_)
  ·refine go 2 ?_; refine cB 13 ent187 (g187 k  a0.Realm) H fun r15 H => ?_; refine gn 2 ?_; cases H; exact WpC.ret rt
  ·refine gn 5 ?_; cases H; exact WpC.ret rt
 ·refine WpC.join (fun σ => ∃ (kj2 : Nat) (v16 : T_Event) (v17 : Bool), kj2 ≤ K ∧ I_rooted.j2 kj2 v16 v17 = some r ∧ σ = mkSt [(1, oP 0 0), (4, oI v16.Kind), (15, oL v17)] [] [(0, (bT_Event v16))] 1) ?_ ?_
  ·rintro _ ⟨kj2, v16, v17, hkj2, H, rfl⟩
   unfold I_rooted.j2 at H; refine cd H (fun hc H => ?_) (fun hc H => ?_)
   ·refine sy 2 ?_; refine cB 1 ent100 (g100 kj2  v16.Service) H fun r18 H => ?_; refine gn 1 ?_; cases H; exact WpC.ret rt
   ·refine sg 2 ?_; refine cd H (fun hc H => ?_) (fun hc H => ?_)
    ·refine sy 2 ?_; refine cB 1 ent187 (g187 kj2  v16.Realm) H fun r21 H => ?_; refine mv ?_; refine sH H (fun hc H => ?_) (fun hc H => ?_)
     ·refine go 2 ?_; refine cB 2 ent66 (g66 kj2  v16.Service 10 12) H fun r22 H => ?_; refine gn 2 ?_; cases H; exact WpC.ret rt
     ·refine gn 5 ?_; cases H; exact WpC.ret rt
    ·refine WpC.skip (sr ?_); refine gn 1 ?_; cases H; exact WpC.ret rt
  ·refine sg 2 ?_; refine cd H (fun hc H => ?_) (fun hc H => ?_)
   ·refine WpC.skip ?_; exact ⟨_, ⟨k, a0, (a0.Kind == 2), by omega, H, rfl⟩, lm [(0, 11)] hm⟩
   ·refine WpC.regionL ?_; refine gn 2 ?_; exact ⟨_, ⟨k, a0, (a0.Kind == 4), by omega, H, rfl⟩, lm [(0, 11)] hm⟩
/-! ### I_PrincipalKey -/
def I_PrincipalKey (k : Nat) (a0 : Int) : Option Int := (I_within k a0 0 2).bind fun r3 => cond r3 (some (IntKind.i64.wrap (1 + a0))) ((I_isPrincipal k a0).bind fun r4 => cond r4 (some (IntKind.i64.wrap ((IntKind.i64.wrap (11 + a0)) - 3))) (some 0))
theorem ent21 : MG.Enters Tryz.prog 21 := en func21
theorem g21 (k : Nat) (a0 r : Int) (H : I_PrincipalKey k a0 = some r) : Gives Tryz.prog 21 [V.one (cI a0)] [] [V.one (cI r)] [] := by
 refine Gives.intro func21 rfl rfl rfl rfl ?_; refine fx fun w0 T S0 ob oh hm => ?_
 have hF := fxe w0 T S0 14 ob oh
 unfold I_PrincipalKey at H; obtain ⟨K, hK⟩ := leK k; refine sg 1 ?_; refine WpC.seq (WpC.block (sr ?_)); refine mv ?_; refine cB 1 ent66 (g66 k  a0 0 2) H fun r3 H => ?_; refine gn 1 ?_; refine cd H (fun hc H => ?_) (fun hc H => ?_)
 ·refine sg 3 ?_; cases H; exact WpC.ret rt
 ·refine sy 1 ?_; refine cB 2 ent67 (g67 k  a0) H fun r4 H => ?_; refine gn 1 ?_; refine cd H (fun hc H => ?_) (fun hc H => ?_)
  ·refine sg 4 ?_; cases H; exact WpC.ret rt
  ·refine WpC.skip (sr ?_); refine gn 1 ?_; cases H; exact WpC.ret rt
/-! ### I_CentreKey -/
def I_CentreKey (k : Nat) (a0 : Int) : Option Int := (I_isRealm k a0).bind fun r2 => cond (!r2) (some 0) (some (IntKind.i64.wrap (21 + a0)))
theorem ent125 : MG.Enters Tryz.prog 125 := en func125
theorem g125 (k : Nat) (a0 r : Int) (H : I_CentreKey k a0 = some r) : Gives Tryz.prog 125 [V.one (cI a0)] [] [V.one (cI r)] [] := by
 refine Gives.intro func125 rfl rfl rfl rfl ?_; refine fx fun w0 T S0 ob oh hm => ?_
 have hF := fxe w0 T S0 8 ob oh
 unfold I_CentreKey at H; obtain ⟨K, hK⟩ := leK k; refine sg 1 ?_; refine WpC.seq (sr ?_); refine mv ?_; refine cB 1 ent187 (g187 k  a0) H fun r2 H => ?_; refine gn 1 ?_; refine cd H (fun hc H => ?_) (fun hc H => ?_)
 ·refine sg 1 ?_; cases H; exact WpC.ret rt
 ·refine WpC.skip (sr ?_); refine gn 3 ?_; cases H; exact WpC.ret rt
/-! ### I_LinkKey -/
def I_LinkKey (k : Nat) (a0 a1 : Int) : Option Int := (I_isRealm k a0).bind fun r7 => cond (!r7) (some 0) ((I_isRealm k a1).bind fun r8 => cond (!r8) (some 0) (some (IntKind.i64.wrap ((IntKind.i64.wrap (31 + (IntKind.i64.wrap (3 * a0)))) + a1))))
theorem ent126 : MG.Enters Tryz.prog 126 := en func126
theorem g126 (k : Nat) (a0 a1 r : Int) (H : I_LinkKey k a0 a1 = some r) : Gives Tryz.prog 126 [V.one (cI a0), V.one (cI a1)] [] [V.one (cI r)] [] := by
 refine Gives.intro func126 rfl rfl rfl rfl ?_; refine fx fun w0 T S0 ob oh hm => ?_
 have hF := fxe w0 T S0 18 ob oh
 unfold I_LinkKey at H; obtain ⟨K, hK⟩ := leK k; refine sg 1 ?_; refine WpC.seq (sr ?_); refine mv ?_; refine cB 2 ent187 (g187 k  a0) H fun r7 H => ?_; refine go 2 ?_; refine sH H (fun hc H => ?_) (fun hc H => ?_)
 ·refine gn 4 ?_; refine cT ?_; refine sg 1 ?_; cases H; exact WpC.ret rt
 ·refine mv ?_; refine cB 3 ent187 (g187 k  a1) H fun r8 H => ?_; refine gn 2 ?_; refine cd H (fun hc H => ?_) (fun hc H => ?_)
  ·refine sg 1 ?_; cases H; exact WpC.ret rt
  ·refine WpC.skip (sr ?_); refine gn 6 ?_; cases H; exact WpC.ret rt
/-! ### I_Roots -/
def I_Roots.j19 (cl17 : (List T_Event) → Int → (List Int) → Int → Int → Option (List Int)) (k : Nat) (v242 : List T_Event) (v243 : T_Event) (v244 : List Int) (v245 v246 : Int) : Option (List Int) := cl17 v242 v243.Parent v244 v245 (IntKind.i64.wrap (v246 + 1))
def I_Roots.j20 (cl17 : (List T_Event) → Int → (List Int) → Int → Int → Option (List Int)) (k : Nat) (v255 : List T_Event) (v256 : T_Event) (v257 : List Int) (v258 v259 : Int) (v260 : Bool) : Option (List Int) := cond v260 ((I_PrincipalKey k (IntKind.i64.wrap (3 + v256.Service))).bind fun r261 => cond (decide ((2 * (v257.length + ([r261] : List Int).length) + 192) * 8 ≤ 281474976710656)) (I_Roots.j19 cl17 k v255 v256 (v257 ++ ([r261] : List Int)) v258 v259) none) (cond (v256.Kind == 3) ((I_LinkKey k v256.Realm (IntKind.i64.wrap (v256.Service - 10))).bind fun r263 => cond (decide ((2 * (v257.length + ([r263] : List Int).length) + 192) * 8 ≤ 281474976710656)) (I_Roots.j19 cl17 k v255 v256 (v257 ++ ([r263] : List Int)) v258 v259) none) (some ([] : List Int)))
def I_Roots.l17 : Nat → (List T_Event) → Int → (List Int) → Int → Int → Option (List Int)
 | 0, _, _, _, _, _ => none
 | k17 + 1, v219, v220, v221, v222, v223 => cond (decide (v223 < v222)) ((I_Find k17 v219 v220).bind fun r247 => cond (decide (r247 < 0)) (some ([] : List Int)) ((at? v219 r247).bind fun b248 => (I_rooted k17 b248).bind fun r250 => cond (!r250) (some ([] : List Int)) (cond (b248.Kind == 1) ((I_PrincipalKey k17 b248.By).bind fun r251 => (I_CentreKey k17 b248.Realm).bind fun r252 => cond (decide ((2 * (v221.length + ([r251, r252] : List Int).length) + 192) * 8 ≤ 281474976710656)) ((I_risen k17 (v221 ++ ([r251, r252] : List Int))).bind fun r254 => some r254) none) (cond (b248.Kind == 2) (I_Roots.j20 (I_Roots.l17 k17) k17 v219 b248 v221 v222 v223 (b248.Kind == 2)) (I_Roots.j20 (I_Roots.l17 k17) k17 v219 b248 v221 v222 v223 (b248.Kind == 4)))))) (some ([] : List Int))
def I_Roots (k : Nat) (a0 : T_Config) (a1 : List T_Event) (a2 : Int) : Option (List Int) := (I_ConfigOk k a0).bind fun r2 => cond (!r2) (some ([] : List Int)) (I_Roots.l17 k a1 a2 ([] : List Int) (a1.length : Int) 0)
theorem ent44 : MG.Enters Tryz.prog 44 := en func44
theorem g44 (k : Nat) (g0 g1 g2 g3 g4 : Bool) (a0 : T_Config) (a1 : List T_Event) (a2 : Int) (r : List Int) (H : I_Roots k a0 a1 a2 = some r) : Gives Tryz.prog 44 [V.agg (bT_Config g0 g1 g2 g3 a0), V.one (Cell.sl g4 (List.map eT_Event a1)), V.one (cI a2)] [] [V.one (Cell.ow 1 (List.map eI r))] [] := by
 refine Gives.intro func44 rfl rfl rfl rfl ?_; refine fx fun w0 T S0 ob oh hm => ?_
 have hF := fxe w0 T S0 72 ob oh
 unfold I_Roots at H; obtain ⟨K, hK⟩ := leK k; refine sr ?_; refine bo 7 ?_; refine gn 1 ?_; refine sr ?_; refine L.buildSlice (e := eI) 8 ([] : List Int) underlying24 info3 rfl rfl rfl hF rfl rfl rfl rfl rfl rfl rfl rfl ?_; refine gn 1 ?_; refine WpC.seq (sr ?_); refine lp shape27 ?_; refine cB 9 ent99 (g99 k g0 g1 g2 g3 a0) H fun r2 H => ?_; refine gn 1 ?_; refine cd H (fun hc H => ?_) (fun hc H => ?_)
 ·refine sg 2 ?_; cases H; exact WpC.ret rt
 ·refine WpC.skip (WpC.seq (sr ?_)); refine mv ?_; refine L.lenR (xs := a1) (e := eT_Event) underlying40 hF rfl rfl rfl rfl ?_; refine gn 1 ?_; refine WpC.block ?_; refine WpC.loopL (P := Tryz.prog) (fun n σ => ∃ (v219 : List T_Event) (v220 : Int) (v221 : List Int) (v222 v223 : Int), n ≤ K ∧ I_Roots.l17 n v219 v220 v221 v222 v223 = some r ∧ σ = mkSt [(1, MG.one (Cell.sl g4 (List.map eT_Event v219))), (2, oI v220), (7, MG.one (Cell.own 0)), (16, oI v222), (17, oI v223)] [(0, ⟨1, List.map eI v221⟩)] [] 1) k ⟨_, ⟨a1, a2, ([] : List Int), (a1.length : Int), 0, by omega, H, rfl⟩, lm [(0, 8)] hm⟩ ?_; clear H
  rintro k17 _ ⟨v219, v220, v221, v222, v223, hk17, H, rfl⟩
  cases k17 with
  | zero => cases H
  | succ k17 =>
   rw [I_Roots.l17] at H
   refine sg 1 ?_; refine WpC.seq ?_; refine cd H (fun hc H => ?_) (fun hc H => ?_)
   ·refine WpC.skip ?_; refine WpC.join (fun σ => ∃ (kj19 : Nat) (v242 : List T_Event) (v243 : T_Event) (v244 : List Int) (v245 v246 : Int), kj19 ≤ K ∧ I_Roots.j19 (I_Roots.l17 k17) kj19 v242 v243 v244 v245 v246 = some r ∧ σ = mkSt [(1, MG.one (Cell.sl g4 (List.map eT_Event v242))), (2, oI v243.Parent), (7, MG.one (Cell.own 0)), (16, oI v245), (17, oI v246)] [(0, ⟨1, List.map eI v244⟩)] [] 1) ?_ ?_
    ·rintro _ ⟨kj19, v242, v243, v244, v245, v246, hkj19, H, rfl⟩
     unfold I_Roots.j19 at H; refine WpC.regionL ?_; refine gn 2 ?_; exact ⟨k17, _, by omega, ⟨v242, v243.Parent, v244, v245, (IntKind.i64.wrap (v246 + 1)), by omega, H, rfl⟩, lm [(0, 0)] hm⟩
    ·refine WpC.block (sr ?_); refine go 2 ?_; refine cB 1 ent17 (g17 k17 g4 v219 v220) H fun r247 H => ?_; refine gn 1 ?_; refine WpC.seq (sr ?_); refine gn 2 ?_; refine cd H (fun hc H => ?_) (fun hc H => ?_)
     ·refine WpC.exit (sr ?_); refine L.buildSlice (e := eI) 2 ([] : List Int) underlying24 info3 rfl rfl rfl hF rfl rfl rfl rfl rfl rfl rfl rfl ?_; refine gn 1 ?_; cases H; exact WpC.ret rt
     ·refine WpC.skip (sr ?_); refine go 2 ?_; obtain ⟨b248, hb248, H⟩ := bindS H; refine ix underlying40 info47 hb248 ?_; refine le shape47 ?_; refine alc 2 info47 ?_; refine gn 1 ?_; refine sg 3 ?_; refine WpC.seq (sr ?_); refine lp shape47 ?_; refine cB 3 ent123 (g123 k17  b248) H fun r250 H => ?_; refine gn 1 ?_; refine cd H (fun hc H => ?_) (fun hc H => ?_)
      ·refine sr ?_; refine L.buildSlice (e := eI) 4 ([] : List Int) underlying24 info3 rfl rfl rfl hF rfl rfl rfl rfl rfl rfl rfl rfl ?_; refine gn 1 ?_; cases H; exact WpC.ret rt
      ·refine WpC.skip (sr ?_); refine gn 2 ?_; refine WpC.block (sr ?_); refine gn 2 ?_; refine cd H (fun hc H => ?_) (fun hc H => ?_)
       ·refine WpC.seq ?_; obtain ⟨r251, hr251, H⟩ := bindS H; obtain ⟨r252, hr252, H⟩ := bindS H; obtain ⟨h253, H⟩ := condG H; obtain ⟨r254, hr254, H⟩ := bindS H; refine A.begin mixed rfl rfl ?_; intro W hI hO
        have n63 : W 5 #[true, true, true, true, true, true, false, false, false, false, false] (mkSt [(39, MG.one (Cell.own 0)), (42, oI r251), (44, oI b248.Realm)] [(0, ⟨1, List.map eI v221⟩)] [] 1) := by
         refine hI _ _ _ ?_; refine A.all [6] (by kernel_rfl) rfl ⟨⟨_, rfl, ?_⟩, trivial⟩; refine c0 1 ent125 (g125 k17  b248.Realm r252 hr252) (L.nil ?_); refine A.all [7] (by kernel_rfl) rfl ⟨⟨_, rfl, ?_⟩, trivial⟩; refine L.buildSlice (e := eI) 2 ([r251, r252] : List Int) underlying24 info3 rfl rfl rfl hF rfl rfl rfl rfl rfl rfl rfl rfl (L.nil ?_); refine A.all [8] (by kernel_rfl) rfl ⟨⟨_, rfl, ?_⟩, trivial⟩; refine L.append (xs := v221) (ys := ([r251, r252] : List Int)) (e := eI) 3 underlying24 info3 rfl rfl hF rfl rfl rfl rfl rfl rfl rfl rfl (fun _ => rfl) (fun _ _ h1 h2 => by cases h1; cases h2; rfl) ⟨_, underlying24⟩ (of_decide_eq_true h253) rfl rfl (L.nil ?_); refine A.all [9] (by kernel_rfl) rfl ⟨⟨_, rfl, ?_⟩, trivial⟩; refine ca [true] [] [] 4 ent124 (g124 k17  (v221 ++ ([r251, r252] : List Int)) r254 hr254) (L.nil ?_); refine tA 10 ?_; refine A.le (τ := mkSt [(6, MG.one (Cell.own 0))] [(0, ⟨1, List.map eI r254⟩)] [] 1) (lm [(0, 4)] hm) ?_; refine A.done (by kernel_rfl) ?_; cases H; exact WpC.ret rt
        have n55 : W 6 #[true, true, true, false, true, true, false, false, false, false, false] (mkSt [(39, MG.one (Cell.own 0)), (41, oI b248.By), (44, oI b248.Realm)] [(0, ⟨1, List.map eI v221⟩)] [] 1) := by
         refine hI _ _ _ ?_; refine A.all [3] (by kernel_rfl) rfl ⟨⟨_, rfl, ?_⟩, trivial⟩; refine c0 1 ent21 (g21 k17  b248.By r251 hr251) (L.nil ?_); exact A.on (hO _ _ _ n63) (lm [(0, 0)] hm)
        refine hI _ _ _ ?_; refine tM 0 ?_; refine tF 1 underlying47 info3 ?_; refine tF 4 underlying47 info3 ?_; refine A.all [2, 5] (by kernel_rfl) rfl ⟨⟨_, rfl, ?_⟩, ⟨_, rfl, ?_⟩, trivial⟩
        ·refine gn 1 ?_; refine A.all [3, 5] (by kernel_rfl) rfl ⟨⟨_, rfl, ?_⟩, ⟨_, rfl, ?_⟩, trivial⟩
         ·refine c0 4 ent21 (g21 k17  b248.By r251 hr251) (L.nil ?_); refine A.all [5] (by kernel_rfl) rfl ⟨⟨_, rfl, ?_⟩, trivial⟩; refine gn 1 ?_; exact A.on (hO _ _ _ n63) (lm [(0, 0)] hm)
         ·refine gn 1 ?_; exact A.on (hO _ _ _ n55) (lm [(0, 0)] hm)
        ·refine gn 1 ?_; refine A.all [2] (by kernel_rfl) rfl ⟨⟨_, rfl, ?_⟩, trivial⟩; refine gn 1 ?_; exact A.on (hO _ _ _ n55) (lm [(0, 0)] hm)
       ·refine WpC.join (fun σ => ∃ (kj20 : Nat) (v255 : List T_Event) (v256 : T_Event) (v257 : List Int) (v258 v259 : Int) (v260 : Bool), kj20 ≤ K ∧ I_Roots.j20 (I_Roots.l17 k17) kj20 v255 v256 v257 v258 v259 v260 = some r ∧ σ = mkSt [(1, MG.one (Cell.sl g4 (List.map eT_Event v255))), (2, oI v256.Parent), (7, MG.one (Cell.own 0)), (9, oP 1 0), (16, oI v258), (17, oI v259), (35, oI v256.Kind), (49, oL v260)] [(0, ⟨1, List.map eI v257⟩)] [(1, (bT_Event v256))] 2) ?_ ?_
        ·rintro _ ⟨kj20, v255, v256, v257, v258, v259, v260, hkj20, H, rfl⟩
         unfold I_Roots.j20 at H; refine cd H (fun hc H => ?_) (fun hc H => ?_)
         ·refine WpC.regionL ?_; refine go 4 ?_; refine cB 2 ent21 (g21 kj20  (IntKind.i64.wrap (3 + v256.Service))) H fun r261 H => ?_; refine L.buildSlice (e := eI) 3 ([r261] : List Int) underlying24 info3 rfl rfl rfl hF rfl rfl rfl rfl rfl rfl rfl rfl ?_; obtain ⟨h262, H⟩ := condG H; refine L.append (xs := v257) (ys := ([r261] : List Int)) (e := eI) 4 underlying24 info3 rfl rfl hF rfl rfl rfl rfl rfl rfl rfl rfl (fun _ => rfl) (fun _ _ h1 h2 => by cases h1; cases h2; rfl) ⟨_, underlying24⟩ (of_decide_eq_true h262) rfl rfl ?_; refine gn 1 ?_; exact ⟨_, ⟨kj20, v255, v256, (v257 ++ ([r261] : List Int)), v258, v259, by omega, H, rfl⟩, lm [(0, 4)] hm⟩
         ·refine sg 2 ?_; refine cd H (fun hc H => ?_) (fun hc H => ?_)
          ·refine WpC.regionL ?_; refine go 6 ?_; refine cB 2 ent126 (g126 kj20  v256.Realm (IntKind.i64.wrap (v256.Service - 10))) H fun r263 H => ?_; refine L.buildSlice (e := eI) 3 ([r263] : List Int) underlying24 info3 rfl rfl rfl hF rfl rfl rfl rfl rfl rfl rfl rfl ?_; obtain ⟨h264, H⟩ := condG H; refine L.append (xs := v257) (ys := ([r263] : List Int)) (e := eI) 4 underlying24 info3 rfl rfl hF rfl rfl rfl rfl rfl rfl rfl rfl (fun _ => rfl) (fun _ _ h1 h2 => by cases h1; cases h2; rfl) ⟨_, underlying24⟩ (of_decide_eq_true h264) rfl rfl ?_; refine gn 1 ?_; exact ⟨_, ⟨kj20, v255, v256, (v257 ++ ([r263] : List Int)), v258, v259, by omega, H, rfl⟩, lm [(0, 4)] hm⟩
          ·refine sr ?_; refine L.buildSlice (e := eI) 2 ([] : List Int) underlying24 info3 rfl rfl rfl hF rfl rfl rfl rfl rfl rfl rfl rfl ?_; refine gn 1 ?_; cases H; exact WpC.ret rt
        ·refine sg 2 ?_; refine cd H (fun hc H => ?_) (fun hc H => ?_)
         ·refine WpC.skip ?_; exact ⟨_, ⟨k17, v219, b248, v221, v222, v223, (b248.Kind == 2), by omega, H, rfl⟩, lm [(0, 0), (1, 2)] hm⟩
         ·refine WpC.regionL ?_; refine gn 2 ?_; exact ⟨_, ⟨k17, v219, b248, v221, v222, v223, (b248.Kind == 4), by omega, H, rfl⟩, lm [(0, 0), (1, 2)] hm⟩
   ·refine WpC.exit (sr ?_); refine L.buildSlice (e := eI) 1 ([] : List Int) underlying24 info3 rfl rfl rfl hF rfl rfl rfl rfl rfl rfl rfl rfl ?_; refine gn 1 ?_; cases H; exact WpC.ret rt
/-! ### V_Index_int -/
def V_Index_int.l2 : Nat → (List Int) → Int → Int → Int → Option Int
 | 0, _, _, _, _ => none
 | k2 + 1, v29, v30, v31, v32 => cond (decide (v32 < v31)) ((at? v29 v32).bind fun b34 => cond (v30 == b34) (some v32) ((V_Index_int.l2 k2) v29 v30 v31 (IntKind.i64.wrap (v32 + 1)))) (some (-1))
def V_Index_int (k : Nat) (a0 : List Int) (a1 : Int) : Option Int := V_Index_int.l2 k a0 a1 (a0.length : Int) 0
theorem ent153 : MG.Enters Tryz.prog 153 := en func153
theorem g153 (k : Nat) (g0 : Bool) (a0 : List Int) (a1 r : Int) (H : V_Index_int k a0 a1 = some r) : Gives Tryz.prog 153 [V.one (Cell.sl g0 (List.map eI a0)), V.one (cI a1)] [] [V.one (cI r)] [] := by
 refine Gives.intro func153 rfl rfl rfl rfl ?_; refine fx fun w0 T S0 ob oh hm => ?_
 have hF := fxe w0 T S0 19 ob oh
 unfold V_Index_int at H; obtain ⟨K, hK⟩ := leK k; refine sg 1 ?_; refine WpC.seq (sr ?_); refine mv ?_; refine L.lenR (xs := a0) (e := eI) underlying24 hF rfl rfl rfl rfl ?_; refine gn 1 ?_; refine WpC.block ?_; refine WpC.loopL (P := Tryz.prog) (fun n σ => ∃ (v29 : List Int) (v30 v31 v32 : Int), n ≤ K ∧ V_Index_int.l2 n v29 v30 v31 v32 = some r ∧ σ = mkSt [(0, MG.one (Cell.sl g0 (List.map eI v29))), (1, oI v30), (7, oI v31), (8, oI v32)] [] [] 0) k ⟨_, ⟨a0, a1, (a0.length : Int), 0, by omega, H, rfl⟩, lm [] hm⟩ ?_; clear H
 rintro k2 _ ⟨v29, v30, v31, v32, hk2, H, rfl⟩
 cases k2 with
 | zero => cases H
 | succ k2 =>
  rw [V_Index_int.l2] at H
  refine sg 1 ?_; refine WpC.seq ?_; refine cd H (fun hc H => ?_) (fun hc H => ?_)
  ·refine WpC.skip (WpC.seq (WpC.block (sr ?_))); refine gn 2 ?_; refine sy 3 ?_; obtain ⟨b34, hb34, H⟩ := bindS H; refine ix underlying24 info3 hb34 ?_; refine gn 2 ?_; refine cd H (fun hc H => ?_) (fun hc H => ?_)
   ·refine sg 2 ?_; cases H; exact WpC.ret rt
   ·refine WpC.skip (WpC.regionL ?_); refine gn 2 ?_; exact ⟨k2, _, by omega, ⟨v29, v30, v31, (IntKind.i64.wrap (v32 + 1)), by omega, H, rfl⟩, lm [] hm⟩
  ·refine WpC.exit (sr ?_); refine gn 1 ?_; cases H; exact WpC.ret rt
/-! ### V_Contains_int -/
def V_Contains_int (k : Nat) (a0 : List Int) (a1 : Int) : Option Bool := (V_Index_int k a0 a1).bind fun r1 => some (decide (r1 ≥ 0))
theorem ent65 : MG.Enters Tryz.prog 65 := en func65
theorem g65 (k : Nat) (g0 : Bool) (a0 : List Int) (a1 : Int) (r : Bool) (H : V_Contains_int k a0 a1 = some r) : Gives Tryz.prog 65 [V.one (Cell.sl g0 (List.map eI a0)), V.one (cI a1)] [] [V.one (cL r)] [] := by
 refine Gives.intro func65 rfl rfl rfl rfl ?_; refine fx fun w0 T S0 ob oh hm => ?_
 have hF := fxe w0 T S0 9 ob oh
 unfold V_Contains_int at H; obtain ⟨K, hK⟩ := leK k; refine sg 1 ?_; refine sy 2 ?_; refine cB 2 ent153 (g153 k g0 a0 a1) H fun r1 H => ?_; refine gn 2 ?_; cases H; exact WpC.ret rt
/-! ### I_Secret_1 -/
def I_Secret_1 (k : Nat) (a0 : Int) (o0 : T_World) : Option Bool := (V_Contains_int k o0.Leaked a0).bind fun r1 => some r1
theorem ent116 : MG.Enters Tryz.prog 116 := en func116
theorem g116 (k : Nat) (a0 : Int) (o0 : T_World) (r : Bool) (H : I_Secret_1 k a0 o0 = some r) : Gives Tryz.prog 116 [V.one (cI a0), V.one (Cell.ptr 0 0)] [[Cell.sl true (List.map eI o0.Config.UserRealm), Cell.sl true (List.map eI o0.Config.ServiceRealm), Cell.sl true (List.map eT_Pair o0.Config.Links), Cell.sl true (List.map eT_Pair o0.Config.Proxy), cI o0.Config.Skew, cI o0.Now, cI o0.Fresh, Cell.sl true (List.map eS o0.Net), Cell.sl true (List.map eS o0.Known.Terms), Cell.sl true (List.map eI o0.Known.Keys), Cell.sl true (List.map eT_Wait o0.Waits), Cell.sl true (List.map eT_Cred o0.Creds), Cell.sl true (List.map eT_Cache o0.Caches), Cell.sl true (List.map eT_Event o0.Log), Cell.sl true (List.map eT_Accept o0.Accepts), Cell.sl true (List.map eI o0.Leaked)]] [V.one (cL r)] [[Cell.sl true (List.map eI o0.Config.UserRealm), Cell.sl true (List.map eI o0.Config.ServiceRealm), Cell.sl true (List.map eT_Pair o0.Config.Links), Cell.sl true (List.map eT_Pair o0.Config.Proxy), cI o0.Config.Skew, cI o0.Now, cI o0.Fresh, Cell.sl true (List.map eS o0.Net), Cell.sl true (List.map eS o0.Known.Terms), Cell.sl true (List.map eI o0.Known.Keys), Cell.sl true (List.map eT_Wait o0.Waits), Cell.sl true (List.map eT_Cred o0.Creds), Cell.sl true (List.map eT_Cache o0.Caches), Cell.sl true (List.map eT_Event o0.Log), Cell.sl true (List.map eT_Accept o0.Accepts), Cell.sl true (List.map eI o0.Leaked)]] := by
 refine Gives.intro func116 rfl rfl rfl rfl ?_; refine fx fun w0 T S0 ob oh hm => ?_
 have hF := fxe w0 T S0 8 ob oh
 unfold I_Secret_1 at H; obtain ⟨K, hK⟩ := leK k; refine sg 1 ?_; refine sy 3 ?_; refine cB 19 ent65 (g65 k true o0.Leaked a0) H fun r1 H => ?_; refine gn 1 ?_; cases H; exact WpC.ret rt
/-! ### V_IndexFunc_int__impl_Secret_1 -/
def V_IndexFunc_int__impl_Secret_1.l2 : Nat → (List Int) → Int → Int → T_World → Option (Int × T_World)
 | 0, _, _, _, _ => none
 | k2 + 1, v39, v40, v41, v42 => cond (decide (v41 < v40)) ((at? v39 v41).bind fun b45 => (I_Secret_1 k2 b45 v42).bind fun r46 => cond r46 (some (v41, v42)) ((V_IndexFunc_int__impl_Secret_1.l2 k2) v39 v40 (IntKind.i64.wrap (v41 + 1)) v42)) (some ((-1), v42))
def V_IndexFunc_int__impl_Secret_1 (k : Nat) (a0 : List Int) (o0 : T_World) : Option (Int × T_World) := V_IndexFunc_int__impl_Secret_1.l2 k a0 (a0.length : Int) 0 o0
theorem ent196 : MG.Enters Tryz.prog 196 := en func196
theorem g196 (k : Nat) (g0 : Bool) (a0 : List Int) (o0 : T_World) (r : Int × T_World) (H : V_IndexFunc_int__impl_Secret_1 k a0 o0 = some r) : Gives Tryz.prog 196 [V.one (Cell.sl g0 (List.map eI a0)), V.one (Cell.clo 116 [Cell.ptr 0 0])] [[Cell.sl true (List.map eI o0.Config.UserRealm), Cell.sl true (List.map eI o0.Config.ServiceRealm), Cell.sl true (List.map eT_Pair o0.Config.Links), Cell.sl true (List.map eT_Pair o0.Config.Proxy), cI o0.Config.Skew, cI o0.Now, cI o0.Fresh, Cell.sl true (List.map eS o0.Net), Cell.sl true (List.map eS o0.Known.Terms), Cell.sl true (List.map eI o0.Known.Keys), Cell.sl true (List.map eT_Wait o0.Waits), Cell.sl true (List.map eT_Cred o0.Creds), Cell.sl true (List.map eT_Cache o0.Caches), Cell.sl true (List.map eT_Event o0.Log), Cell.sl true (List.map eT_Accept o0.Accepts), Cell.sl true (List.map eI o0.Leaked)]] [V.one (cI r.1)] [[Cell.sl true (List.map eI r.2.Config.UserRealm), Cell.sl true (List.map eI r.2.Config.ServiceRealm), Cell.sl true (List.map eT_Pair r.2.Config.Links), Cell.sl true (List.map eT_Pair r.2.Config.Proxy), cI r.2.Config.Skew, cI r.2.Now, cI r.2.Fresh, Cell.sl true (List.map eS r.2.Net), Cell.sl true (List.map eS r.2.Known.Terms), Cell.sl true (List.map eI r.2.Known.Keys), Cell.sl true (List.map eT_Wait r.2.Waits), Cell.sl true (List.map eT_Cred r.2.Creds), Cell.sl true (List.map eT_Cache r.2.Caches), Cell.sl true (List.map eT_Event r.2.Log), Cell.sl true (List.map eT_Accept r.2.Accepts), Cell.sl true (List.map eI r.2.Leaked)]] := by
 refine Gives.intro func196 rfl rfl rfl rfl ?_; refine fx fun w0 T S0 ob oh hm => ?_
 have hF := fxe w0 T S0 19 ob oh
 unfold V_IndexFunc_int__impl_Secret_1 at H; obtain ⟨K, hK⟩ := leK k; refine sg 1 ?_; refine WpC.seq (sr ?_); refine mv ?_; refine L.lenR (xs := a0) (e := eI) underlying24 hF rfl rfl rfl rfl ?_; refine gn 1 ?_; refine WpC.block ?_; refine WpC.loopL (P := Tryz.prog) (fun n σ => ∃ (v39 : List Int) (v40 v41 : Int) (v42 : T_World), n ≤ K ∧ V_IndexFunc_int__impl_Secret_1.l2 n v39 v40 v41 v42 = some r ∧ σ = mkSt [(0, MG.one (Cell.sl g0 (List.map eI v39))), (1, MG.one (Cell.clo 116 [Cell.ptr 0 0])), (7, oI v40), (8, oI v41)] [] [(0, (bT_World true true true true true true true true true true true true true v42))] 1) k ⟨_, ⟨a0, (a0.length : Int), 0, o0, by omega, H, rfl⟩, lm [(0, 0)] hm⟩ ?_; clear H
 rintro k2 _ ⟨v39, v40, v41, v42, hk2, H, rfl⟩
 cases k2 with
 | zero => cases H
 | succ k2 =>
  rw [V_IndexFunc_int__impl_Secret_1.l2] at H
  refine sg 1 ?_; refine WpC.seq ?_; refine cd H (fun hc H => ?_) (fun hc H => ?_)
  ·refine WpC.skip (WpC.seq (WpC.block (sr ?_))); refine gn 2 ?_; refine sy 3 ?_; obtain ⟨b45, hb45, H⟩ := bindS H; refine ix underlying24 info3 hb45 ?_; refine le shape3 ?_; obtain ⟨r46, hr46, H⟩ := bindS H; refine ca [false] [] [0] 1 ent116 (g116 k2  b45 v42 r46 hr46) (L.nil ?_); refine cd H (fun hc H => ?_) (fun hc H => ?_)
   ·refine sg 2 ?_; cases H; exact WpC.ret rt
   ·refine WpC.skip (WpC.regionL ?_); refine gn 2 ?_; exact ⟨k2, _, by omega, ⟨v39, v40, (IntKind.i64.wrap (v41 + 1)), v42, by omega, H, rfl⟩, lm [(0, 0)] hm⟩
  ·refine WpC.exit (sr ?_); refine gn 1 ?_; cases H; exact WpC.ret rt
/-! ### V_ContainsFunc_int__impl_Secret_1 -/
def V_ContainsFunc_int__impl_Secret_1 (k : Nat) (a0 : List Int) (o0 : T_World) : Option (Bool × T_World) := (V_IndexFunc_int__impl_Secret_1 k a0 o0).bind fun r1 => some ((decide (r1.1 ≥ 0)), r1.2)
theorem ent115 : MG.Enters Tryz.prog 115 := en func115
theorem g115 (k : Nat) (g0 : Bool) (a0 : List Int) (o0 : T_World) (r : Bool × T_World) (H : V_ContainsFunc_int__impl_Secret_1 k a0 o0 = some r) : Gives Tryz.prog 115 [V.one (Cell.sl g0 (List.map eI a0)), V.one (Cell.clo 116 [Cell.ptr 0 0])] [[Cell.sl true (List.map eI o0.Config.UserRealm), Cell.sl true (List.map eI o0.Config.ServiceRealm), Cell.sl true (List.map eT_Pair o0.Config.Links), Cell.sl true (List.map eT_Pair o0.Config.Proxy), cI o0.Config.Skew, cI o0.Now, cI o0.Fresh, Cell.sl true (List.map eS o0.Net), Cell.sl true (List.map eS o0.Known.Terms), Cell.sl true (List.map eI o0.Known.Keys), Cell.sl true (List.map eT_Wait o0.Waits), Cell.sl true (List.map eT_Cred o0.Creds), Cell.sl true (List.map eT_Cache o0.Caches), Cell.sl true (List.map eT_Event o0.Log), Cell.sl true (List.map eT_Accept o0.Accepts), Cell.sl true (List.map eI o0.Leaked)]] [V.one (cL r.1)] [[Cell.sl true (List.map eI r.2.Config.UserRealm), Cell.sl true (List.map eI r.2.Config.ServiceRealm), Cell.sl true (List.map eT_Pair r.2.Config.Links), Cell.sl true (List.map eT_Pair r.2.Config.Proxy), cI r.2.Config.Skew, cI r.2.Now, cI r.2.Fresh, Cell.sl true (List.map eS r.2.Net), Cell.sl true (List.map eS r.2.Known.Terms), Cell.sl true (List.map eI r.2.Known.Keys), Cell.sl true (List.map eT_Wait r.2.Waits), Cell.sl true (List.map eT_Cred r.2.Creds), Cell.sl true (List.map eT_Cache r.2.Caches), Cell.sl true (List.map eT_Event r.2.Log), Cell.sl true (List.map eT_Accept r.2.Accepts), Cell.sl true (List.map eI r.2.Leaked)]] := by
 refine Gives.intro func115 rfl rfl rfl rfl ?_; refine fx fun w0 T S0 ob oh hm => ?_
 have hF := fxe w0 T S0 9 ob oh
 unfold V_ContainsFunc_int__impl_Secret_1 at H; obtain ⟨K, hK⟩ := leK k; refine sg 1 ?_; refine sy 2 ?_; obtain ⟨r1, hr1, H⟩ := bindS H; refine ca [false, false] [] [0] 19 ent196 (g196 k g0 a0 o0 r1 hr1) ?_; refine gn 2 ?_; cases H; exact WpC.ret rt
/-! ### I_Secret -/
def I_Secret.j8 (cl7 : (List Int) → T_World → Int → Int → (List Int) → (List Int) → (List T_Pair) → (List T_Pair) → Int → Int → Int → (List (List UInt8)) → (List (List UInt8)) → (List Int) → (List T_Wait) → (List T_Cred) → (List T_Cache) → (List T_Event) → (List T_Accept) → (List Int) → Option Bool) (k : Nat) (v243 : List Int) (v244 : T_World) (v245 v246 : Int) (v247 v248 : List Int) (v249 v250 : List T_Pair) (v251 v252 v253 : Int) (v254 : List (List UInt8)) (v255 : List (List UInt8)) (v256 : List Int) (v257 : List T_Wait) (v258 : List T_Cred) (v259 : List T_Cache) (v260 : List T_Event) (v261 : List T_Accept) (v262 : List Int) : Option Bool := cl7 v243 v244 v245 (IntKind.i64.wrap (v246 + 1)) v247 v248 v249 v250 v251 v252 v253 v254 v255 v256 v257 v258 v259 v260 v261 v262
def I_Secret.l7 : Nat → (List Int) → T_World → Int → Int → (List Int) → (List Int) → (List T_Pair) → (List T_Pair) → Int → Int → Int → (List (List UInt8)) → (List (List UInt8)) → (List Int) → (List T_Wait) → (List T_Cred) → (List T_Cache) → (List T_Event) → (List T_Accept) → (List Int) → Option Bool
 | 0, _, _, _, _, _, _, _, _, _, _, _, _, _, _, _, _, _, _, _, _ => none
 | k7 + 1, v218, v219, v220, v221, v222, v223, v224, v225, v226, v227, v228, v229, v230, v231, v232, v233, v234, v235, v236, v237 => cond (decide (v221 < v220)) ((at? v219.Log v221).bind fun b263 => (I_Roots k7 (⟨v222, v223, v224, v225, v226⟩ : T_Config) v235 b263.Key).bind fun r264 => (V_ContainsFunc_int__impl_Secret_1 k7 r264 (⟨(⟨v222, v223, v224, v225, v226⟩ : T_Config), v227, v228, v229, (⟨v230, v231⟩ : T_Known), v232, v233, v234, v235, v236, v237⟩ : T_World)).bind fun r265 => cond (decide ((r264.length : Int) > 0)) (cond (!r265.1) ((V_Contains_int k7 v218 b263.Key).bind fun r267 => cond r267 (some false) (I_Secret.j8 (I_Secret.l7 k7) k7 v218 v219 v220 v221 r265.2.Config.UserRealm r265.2.Config.ServiceRealm r265.2.Config.Links r265.2.Config.Proxy r265.2.Config.Skew r265.2.Now r265.2.Fresh r265.2.Net r265.2.Known.Terms r265.2.Known.Keys r265.2.Waits r265.2.Creds r265.2.Caches r265.2.Log r265.2.Accepts r265.2.Leaked)) (I_Secret.j8 (I_Secret.l7 k7) k7 v218 v219 v220 v221 r265.2.Config.UserRealm r265.2.Config.ServiceRealm r265.2.Config.Links r265.2.Config.Proxy r265.2.Config.Skew r265.2.Now r265.2.Fresh r265.2.Net r265.2.Known.Terms r265.2.Known.Keys r265.2.Waits r265.2.Creds r265.2.Caches r265.2.Log r265.2.Accepts r265.2.Leaked)) (I_Secret.j8 (I_Secret.l7 k7) k7 v218 v219 v220 v221 r265.2.Config.UserRealm r265.2.Config.ServiceRealm r265.2.Config.Links r265.2.Config.Proxy r265.2.Config.Skew r265.2.Now r265.2.Fresh r265.2.Net r265.2.Known.Terms r265.2.Known.Keys r265.2.Waits r265.2.Creds r265.2.Caches r265.2.Log r265.2.Accepts r265.2.Leaked)) (some true)
def I_Secret (k : Nat) (a0 : T_World) : Option Bool := (I_WorldOk k a0).bind fun r2 => cond (!r2) (some false) ((I_Reach k a0.Known).bind fun r3 => I_Secret.l7 k r3 a0 (a0.Log.length : Int) 0 a0.Config.UserRealm a0.Config.ServiceRealm a0.Config.Links a0.Config.Proxy a0.Config.Skew a0.Now a0.Fresh a0.Net a0.Known.Terms a0.Known.Keys a0.Waits a0.Creds a0.Caches a0.Log a0.Accepts a0.Leaked)
theorem ent37 : MG.Enters Tryz.prog 37 := en func37
theorem g37 (k : Nat) (a0 : T_World) (r : Bool) (H : I_Secret k a0 = some r) : Gives Tryz.prog 37 [V.agg (bT_World true true true true true true true true true true true true true a0)] [] [V.one (cL r)] [] := by
 refine Gives.intro func37 rfl rfl rfl rfl ?_; refine fx fun w0 T S0 ob oh hm => ?_
 have hF := fxe w0 T S0 45 ob oh
 unfold I_Secret at H; obtain ⟨K, hK⟩ := leK k; refine sr ?_; refine bo 16 ?_; refine gn 1 ?_; refine WpC.seq (sr ?_); refine lp shape43 ?_; refine cB 17 ent88 (g88 k true true true true true true true true true true true true true a0) H fun r2 H => ?_; refine gn 1 ?_; refine cd H (fun hc H => ?_) (fun hc H => ?_)
 ·refine sg 1 ?_; cases H; exact WpC.ret rt
 ·refine WpC.skip (sr ?_); refine go 2 ?_; refine cB 18 ent18 (g18 k true true a0.Known) H fun r3 H => ?_; refine gn 1 ?_; refine WpC.seq (sr ?_); refine go 2 ?_; refine L.lenR (xs := a0.Log) (e := eT_Event) underlying40 hF rfl rfl rfl rfl ?_; refine gn 1 ?_; refine WpC.block ?_
  refine WpC.loopL (P := Tryz.prog) (fun n σ => ∃ (v218 : List Int) (v219 : T_World) (v220 v221 : Int) (v222 v223 : List Int) (v224 v225 : List T_Pair) (v226 v227 v228 : Int) (v229 v230 : List (List UInt8)) (v231 : List Int) (v232 : List T_Wait) (v233 : List T_Cred) (v234 : List T_Cache) (v235 : List T_Event) (v236 : List T_Accept) (v237 : List Int), n ≤ K ∧ I_Secret.l7 n v218 v219 v220 v221 v222 v223 v224 v225 v226 v227 v228 v229 v230 v231 v232 v233 v234 v235 v236 v237 = some r ∧ σ = mkSt [(1, oP 0 0), (3, MG.one (Cell.own 1)), (15, MG.one (Cell.sl true (List.map eT_Event v219.Log))), (16, oI v220), (17, oI v221)] [(1, ⟨1, List.map eI v218⟩)] [(0, [Cell.sl true (List.map eI v222), Cell.sl true (List.map eI v223), Cell.sl true (List.map eT_Pair v224), Cell.sl true (List.map eT_Pair v225), cI v226, cI v227, cI v228, Cell.sl true (List.map eS v229), Cell.sl true (List.map eS v230), Cell.sl true (List.map eI v231), Cell.sl true (List.map eT_Wait v232), Cell.sl true (List.map eT_Cred v233), Cell.sl true (List.map eT_Cache v234), Cell.sl true (List.map eT_Event v235), Cell.sl true (List.map eT_Accept v236), Cell.sl true (List.map eI v237)])] 2) k ⟨_, ⟨r3, a0, (a0.Log.length : Int), 0, a0.Config.UserRealm, a0.Config.ServiceRealm, a0.Config.Links, a0.Config.Proxy, a0.Config.Skew, a0.Now, a0.Fresh, a0.Net, a0.Known.Terms, a0.Known.Keys, a0.Waits, a0.Creds, a0.Caches, a0.Log, a0.Accepts, a0.Leaked, by omega, H, rfl⟩, lm [(0, 16), (1, 18)] hm⟩ ?_
  clear H
  rintro k7 _ ⟨v218, v219, v220, v221, v222, v223, v224, v225, v226, v227, v228, v229, v230, v231, v232, v233, v234, v235, v236, v237, hk7, H, rfl⟩
  cases k7 with
  | zero => cases H
  | succ k7 =>
   rw [I_Secret.l7] at H
   refine sg 1 ?_; refine WpC.seq ?_; refine cd H (fun hc H => ?_) (fun hc H => ?_)
   ·refine WpC.skip ?_; refine WpC.join (fun σ => ∃ (kj8 : Nat) (v243 : List Int) (v244 : T_World) (v245 v246 : Int) (v247 v248 : List Int) (v249 v250 : List T_Pair) (v251 v252 v253 : Int) (v254 v255 : List (List UInt8)) (v256 : List Int) (v257 : List T_Wait) (v258 : List T_Cred) (v259 : List T_Cache) (v260 : List T_Event) (v261 : List T_Accept) (v262 : List Int), kj8 ≤ K ∧ I_Secret.j8 (I_Secret.l7 k7) kj8 v243 v244 v245 v246 v247 v248 v249 v250 v251 v252 v253 v254 v255 v256 v257 v258 v259 v260 v261 v262 = some r ∧ σ = mkSt [(1, oP 0 0), (3, MG.one (Cell.own 1)), (15, MG.one (Cell.sl true (List.map eT_Event v244.Log))), (16, oI v245), (17, oI v246)] [(1, ⟨1, List.map eI v243⟩)] [(0, [Cell.sl true (List.map eI v247), Cell.sl true (List.map eI v248), Cell.sl true (List.map eT_Pair v249), Cell.sl true (List.map eT_Pair v250), cI v251, cI v252, cI v253, Cell.sl true (List.map eS v254), Cell.sl true (List.map eS v255), Cell.sl true (List.map eI v256), Cell.sl true (List.map eT_Wait v257), Cell.sl true (List.map eT_Cred v258), Cell.sl true (List.map eT_Cache v259), Cell.sl true (List.map eT_Event v260), Cell.sl true (List.map eT_Accept v261), Cell.sl true (List.map eI v262)])] 2) ?_ ?_
    ·rintro _ ⟨kj8, v243, v244, v245, v246, v247, v248, v249, v250, v251, v252, v253, v254, v255, v256, v257, v258, v259, v260, v261, v262, hkj8, H, rfl⟩
     unfold I_Secret.j8 at H; refine WpC.regionL ?_; refine gn 2 ?_; exact ⟨k7, _, by omega, ⟨v243, v244, v245, (IntKind.i64.wrap (v246 + 1)), v247, v248, v249, v250, v251, v252, v253, v254, v255, v256, v257, v258, v259, v260, v261, v262, by omega, H, rfl⟩, lm [(0, 0), (1, 1)] hm⟩
    ·refine WpC.block (sr ?_); obtain ⟨b263, hb263, H⟩ := bindS H; refine ix underlying40 info47 hb263 ?_; refine le shape47 ?_; refine alc 2 info47 ?_; refine gn 1 ?_; refine sy 6 ?_; refine cB 3 ent44 (g44 k7 true true true true true (⟨v222, v223, v224, v225, v226⟩ : T_Config) v235 b263.Key) H fun r264 H => ?_; refine gn 1 ?_; refine sy 1 ?_; refine L.makeFunc hF rfl rfl rfl ?_; obtain ⟨r265, hr265, H⟩ := bindS H; refine ca [false, false] [3] [0] 4 ent115 (g115 k7 false r264 (⟨(⟨v222, v223, v224, v225, v226⟩ : T_Config), v227, v228, v229, (⟨v230, v231⟩ : T_Known), v232, v233, v234, v235, v236, v237⟩ : T_World) r265 hr265) ?_; refine gn 1 ?_; refine sy 1 ?_; refine L.lenR (xs := r264) (e := eI) underlying24 hF rfl rfl rfl rfl ?_; refine go 2 ?_; refine sH H (fun hc H => ?_) (fun hc H => ?_)
     ·refine go 4 ?_; refine sH H (fun hc H => ?_) (fun hc H => ?_)
      ·refine go 3 ?_; obtain ⟨r267, hr267, H⟩ := bindS H; refine ca [false, false] [1] [] 21 ent65 (g65 k7 false v218 b263.Key r267 hr267) ?_; refine gn 1 ?_; refine cd H (fun hc H => ?_) (fun hc H => ?_)
       ·refine sg 1 ?_; cases H; exact WpC.ret rt
       ·refine WpC.skip ?_; exact ⟨_, ⟨k7, v218, v219, v220, v221, r265.2.Config.UserRealm, r265.2.Config.ServiceRealm, r265.2.Config.Links, r265.2.Config.Proxy, r265.2.Config.Skew, r265.2.Now, r265.2.Fresh, r265.2.Net, r265.2.Known.Terms, r265.2.Known.Keys, r265.2.Waits, r265.2.Creds, r265.2.Caches, r265.2.Log, r265.2.Accepts, r265.2.Leaked, by omega, H, rfl⟩, lm [(0, 0), (1, 1)] hm⟩
      ·refine gn 5 ?_; refine cF ?_; refine WpC.skip ?_; exact ⟨_, ⟨k7, v218, v219, v220, v221, r265.2.Config.UserRealm, r265.2.Config.ServiceRealm, r265.2.Config.Links, r265.2.Config.Proxy, r265.2.Config.Skew, r265.2.Now, r265.2.Fresh, r265.2.Net, r265.2.Known.Terms, r265.2.Known.Keys, r265.2.Waits, r265.2.Creds, r265.2.Caches, r265.2.Log, r265.2.Accepts, r265.2.Leaked, by omega, H, rfl⟩, lm [(0, 0), (1, 1)] hm⟩
     ·refine gn 9 ?_; refine cF ?_; refine WpC.skip ?_; exact ⟨_, ⟨k7, v218, v219, v220, v221, r265.2.Config.UserRealm, r265.2.Config.ServiceRealm, r265.2.Config.Links, r265.2.Config.Proxy, r265.2.Config.Skew, r265.2.Now, r265.2.Fresh, r265.2.Net, r265.2.Known.Terms, r265.2.Known.Keys, r265.2.Waits, r265.2.Creds, r265.2.Caches, r265.2.Log, r265.2.Accepts, r265.2.Leaked, by omega, H, rfl⟩, lm [(0, 0), (1, 1)] hm⟩
   ·refine WpC.exit (sr ?_); refine gn 1 ?_; cases H; exact WpC.ret rt
/-! ### W_eqIntS -/
def W_eqIntS.l2 : Nat → (List Int) → (List Int) → Int → Option Bool
 | 0, _, _, _ => none
 | k2 + 1, v34, v35, v36 => cond (decide (v36 < (v34.length : Int))) ((at? v34 v36).bind fun b39 => (at? v35 v36).bind fun b40 => cond (b39 != b40) (some false) ((W_eqIntS.l2 k2) v34 v35 (IntKind.i64.wrap (v36 + 1)))) (some true)
def W_eqIntS (k : Nat) (a0 a1 : List Int) : Option Bool := cond ((a0.length : Int) != (a1.length : Int)) (some false) (W_eqIntS.l2 k a0 a1 0)
theorem ent98 : MG.Enters Tryz.prog 98 := en func98
theorem g98 (k : Nat) (g0 g1 : Bool) (a0 a1 : List Int) (r : Bool) (H : W_eqIntS k a0 a1 = some r) : Gives Tryz.prog 98 [V.one (Cell.sl g0 (List.map eI a0)), V.one (Cell.sl g1 (List.map eI a1))] [] [V.one (cL r)] [] := by
 refine Gives.intro func98 rfl rfl rfl rfl ?_; refine fx fun w0 T S0 ob oh hm => ?_
 have hF := fxe w0 T S0 26 ob oh
 unfold W_eqIntS at H; obtain ⟨K, hK⟩ := leK k; refine sg 1 ?_; refine WpC.seq (sr ?_); refine mv ?_; refine L.lenR (xs := a0) (e := eI) underlying24 hF rfl rfl rfl rfl ?_; refine mv ?_; refine L.lenR (xs := a1) (e := eI) underlying24 hF rfl rfl rfl rfl ?_; refine gn 1 ?_; refine cd H (fun hc H => ?_) (fun hc H => ?_)
 ·refine sg 1 ?_; cases H; exact WpC.ret rt
 ·refine WpC.skip (WpC.seq (sr ?_)); refine gn 1 ?_; refine WpC.block ?_; refine WpC.loopL (P := Tryz.prog) (fun n σ => ∃ (v34 v35 : List Int) (v36 : Int), n ≤ K ∧ W_eqIntS.l2 n v34 v35 v36 = some r ∧ σ = mkSt [(0, MG.one (Cell.sl g0 (List.map eI v34))), (1, MG.one (Cell.sl g1 (List.map eI v35))), (5, oI v36)] [] [] 0) k ⟨_, ⟨a0, a1, 0, by omega, H, rfl⟩, lm [] hm⟩ ?_; clear H
  rintro k2 _ ⟨v34, v35, v36, hk2, H, rfl⟩
  cases k2 with
  | zero => cases H
  | succ k2 =>
   rw [W_eqIntS.l2] at H
   refine WpC.seq (sr ?_); refine go 2 ?_; refine L.lenR (xs := v34) (e := eI) underlying24 hF rfl rfl rfl rfl ?_; refine gn 1 ?_; refine cd H (fun hc H => ?_) (fun hc H => ?_)
   ·refine WpC.skip (WpC.seq (WpC.block (WpC.seq ?_))); refine S.begin mixed (by kernel_rfl) ?_; refine S.st 0 rfl rfl ((Ca.move).quiet) (fun Q0 k0 => mv (L.nil k0)) ?_; refine S.st 1 rfl rfl ((Ca.move).quiet) (fun Q0 k0 => mv (L.nil k0)) ?_; obtain ⟨b39, hb39, H⟩ := bindS H; refine S.st 2 rfl rfl ((Ca.indexAddr).quiet) (fun Q0 k0 => ix underlying24 info3 hb39 (L.nil k0)) ?_; refine S.st 3 rfl rfl (Qu.load) (fun Q0 k0 => le shape3 (L.nil k0)) ?_; refine S.st 4 rfl rfl ((Ca.move).quiet) (fun Q0 k0 => mv (L.nil k0)) ?_; refine S.st 5 rfl rfl ((Ca.move).quiet) (fun Q0 k0 => mv (L.nil k0)) ?_; obtain ⟨b40, hb40, H⟩ := bindS H; refine S.st 6 rfl rfl ((Ca.indexAddr).quiet) (fun Q0 k0 => ix underlying24 info3 hb40 (L.nil k0)) ?_; refine S.st 7 rfl rfl (Qu.load) (fun Q0 k0 => le shape3 (L.nil k0)) ?_; refine S.st 8 rfl rfl ((Ca.bin rfl rfl (calm_int _ _ _ _ _ _ _ _)).quiet) (fun Q0 k0 => bi (L.nil k0)) ?_; refine S.nil ?_; refine cd H (fun hc H => ?_) (fun hc H => ?_)
    ·refine sg 1 ?_; cases H; exact WpC.ret rt
    ·refine WpC.skip (WpC.regionL ?_); refine gn 3 ?_; exact ⟨k2, _, by omega, ⟨v34, v35, (IntKind.i64.wrap (v36 + 1)), by omega, H, rfl⟩, lm [] hm⟩
   ·refine WpC.exit (sr ?_); refine gn 1 ?_; cases H; exact WpC.ret rt
/-! ### W_eqPair -/
def W_eqPair (k : Nat) (a0 a1 : T_Pair) : Option Bool := cond (a0.A != a1.A) (some false) (cond (a0.B != a1.B) (some false) (some true))
theorem ent250 : MG.Enters Tryz.prog 250 := en func250
theorem g250 (k : Nat) (a0 a1 : T_Pair) (r : Bool) (H : W_eqPair k a0 a1 = some r) : Gives Tryz.prog 250 [V.agg [cI a0.A, cI a0.B], V.agg [cI a1.A, cI a1.B]] [] [V.one (cL r)] [] := by
 refine Gives.intro func250 rfl rfl rfl rfl ?_; refine fx fun w0 T S0 ob oh hm => ?_
 have hF := fxe w0 T S0 15 ob oh
 unfold W_eqPair at H; obtain ⟨K, hK⟩ := leK k; refine sr ?_; refine bo 4 ?_; refine bo 5 ?_; refine gn 1 ?_; refine WpC.seq (sr ?_); refine gn 5 ?_; refine cd H (fun hc H => ?_) (fun hc H => ?_)
 ·refine sg 1 ?_; cases H; exact WpC.ret rt
 ·refine WpC.skip (WpC.seq (sr ?_)); refine gn 5 ?_; refine cd H (fun hc H => ?_) (fun hc H => ?_)
  ·refine sg 1 ?_; cases H; exact WpC.ret rt
  ·refine WpC.skip (sr ?_); refine gn 1 ?_; cases H; exact WpC.ret rt
end Go.Proofs.YtbaemdkdgghokaaGreat.M
