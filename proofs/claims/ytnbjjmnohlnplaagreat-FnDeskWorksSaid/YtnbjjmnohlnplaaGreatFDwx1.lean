import Derived.Test.YtnbjjmnohlnplaaGreatFDwx0
import Derived.Test.YtnbjjmnohlnplaaGreatProg
namespace Go.Proofs.YtnbjjmnohlnplaaGreat.M
open Go Go.MG Tryz
set_option linter.unusedVariables false
set_option linter.unusedSimpArgs false
set_option maxHeartbeats 8000000
set_option maxRecDepth 100000
/-! ### I_ReadNums -/
def I_ReadNums.l2 : Nat → (List Int) → (List (List UInt8)) → Int → Int → Option (List Int × Bool)
 | 0, _, _, _, _ => none
 | k2 + 1, v48, v49, v50, v51 => cond (decide (v51 < v50)) ((at? v49 v51).bind fun b55 => (I_ReadNum k2 b55).bind fun r56 => cond (!r56.2) (some ([], false)) (cond (decide ((2 * (v48.length + ([r56.1] : List Int).length) + 192) * 8 ≤ 281474976710656)) ((I_ReadNums.l2 k2) (v48 ++ ([r56.1] : List Int)) v49 v50 (IntKind.i64.wrap (v51 + 1))) none)) (some (v48, true))
def I_ReadNums (k : Nat) (a0 : List UInt8) : Option (List Int × Bool) := (I_Parts k a0).bind fun r1 => cond (!r1.2) (some ([], false)) (I_ReadNums.l2 k ([] : List Int) r1.1 (r1.1.length : Int) 0)
theorem ent224 : MG.Enters Tryz.prog 224 := en func224
theorem g224 (k : Nat) (a0 : List UInt8) (r : List Int × Bool) (H : I_ReadNums k a0 = some r) : Gives Tryz.prog 224 [V.one (cS a0)] [] [V.one (Cell.ow 1 (List.map eI r.1)), V.one (cL r.2)] [] := by
 refine Gives.intro func224 rfl rfl rfl rfl ?_; refine fx fun w0 T S0 ob oh hm => ?_
 have hF := fxe w0 T S0 38 ob oh
 unfold I_ReadNums at H; obtain ⟨K, hK⟩ := leK k; refine sg 2 ?_; refine sy 1 ?_; refine cB 1 ent146 (g146 k  a0) H fun r1 H => ?_; refine gn 5 ?_; refine WpC.seq (sr ?_); refine gn 2 ?_; refine cd H (fun hc H => ?_) (fun hc H => ?_)
 ·refine sg 2 ?_; refine WpC.le (Le.own 2 0 3 1 rfl rfl rfl) ?_; cases H; exact WpC.ret rt
 ·refine WpC.skip (sr ?_); refine L.buildSlice (e := eI) 3 ([] : List Int) underlying24 info3 rfl rfl rfl hF rfl rfl rfl rfl rfl rfl rfl rfl ?_; refine gn 1 ?_; refine WpC.seq (sr ?_); refine mv ?_; refine L.lenR (xs := r1.1) (e := eS) underlying34 hF rfl rfl rfl rfl ?_; refine gn 1 ?_; refine WpC.block ?_; refine WpC.loopL (P := Tryz.prog) (fun n σ => ∃ (v48 : List Int) (v49 : List (List UInt8)) (v50 v51 : Int), n ≤ K ∧ I_ReadNums.l2 n v48 v49 v50 v51 = some r ∧ σ = mkSt [(6, MG.one (Cell.own 0)), (19, MG.one (Cell.own 1)), (20, oI v50), (21, oI v51)] [(0, ⟨1, List.map eI v48⟩), (1, ⟨1, List.map eS v49⟩)] [] 2) k ⟨_, ⟨([] : List Int), r1.1, (r1.1.length : Int), 0, by omega, H, rfl⟩, lm [(0, 3), (1, 1)] hm⟩ ?_; clear H
  rintro k2 _ ⟨v48, v49, v50, v51, hk2, H, rfl⟩
  cases k2 with
  | zero => cases H
  | succ k2 =>
   rw [I_ReadNums.l2] at H
   refine sg 1 ?_; refine WpC.seq ?_; refine cd H (fun hc H => ?_) (fun hc H => ?_)
   ·refine WpC.skip (WpC.seq (WpC.block (sr ?_))); obtain ⟨b55, hb55, H⟩ := bindS H; refine ix underlying34 info9 hb55 ?_; refine L.loadEp (xs := v49) (e := eS) shape9 hF rfl rfl rfl rfl (at?_get hb55).2 rfl rfl ?_; refine gn 1 ?_; refine sy 1 ?_; refine cB 2 ent243 (g243 k2  b55) H fun r56 H => ?_; refine gn 5 ?_; refine WpC.seq (sr ?_); refine gn 2 ?_; refine cd H (fun hc H => ?_) (fun hc H => ?_)
    ·refine sg 2 ?_; refine WpC.le (Le.own 2 0 4 1 rfl rfl rfl) ?_; cases H; exact WpC.ret rt
    ·refine WpC.skip (WpC.regionL ?_); refine go 2 ?_; refine L.buildSlice (e := eI) 4 ([r56.1] : List Int) underlying24 info3 rfl rfl rfl hF rfl rfl rfl rfl rfl rfl rfl rfl ?_; obtain ⟨h57, H⟩ := condG H; refine L.append (xs := v48) (ys := ([r56.1] : List Int)) (e := eI) 5 underlying24 info3 rfl rfl hF rfl rfl rfl rfl rfl rfl rfl rfl (fun _ => rfl) (fun _ _ h1 h2 => by cases h1; cases h2; rfl) ⟨_, underlying24⟩ (of_decide_eq_true h57) rfl rfl ?_; refine gn 1 ?_; refine WpC.regionL ?_; refine gn 2 ?_; exact ⟨k2, _, by omega, ⟨(v48 ++ ([r56.1] : List Int)), v49, v50, (IntKind.i64.wrap (v51 + 1)), by omega, H, rfl⟩, lm [(0, 5), (1, 1)] hm⟩
   ·refine WpC.exit (sr ?_); refine gn 3 ?_; cases H; exact WpC.ret rt
/-! ### I_sealed -/
def I_sealed (k : Nat) (a0 : List UInt8) : Option (Int × List UInt8 × Bool) := (I_isOf k a0 (115 : UInt8)).bind fun r2 => cond (!r2) (some (0, ([] : List UInt8), false)) ((I_varAt k a0 1).bind fun r3 => (cut? a0 r3.2 (a0.length : Int)).bind fun b4 => some (r3.1, b4, true))
theorem ent94 : MG.Enters Tryz.prog 94 := en func94
theorem g94 (k : Nat) (a0 : List UInt8) (r : Int × List UInt8 × Bool) (H : I_sealed k a0 = some r) : Gives Tryz.prog 94 [V.one (cS a0)] [] [V.one (cI r.1), V.one (cS r.2.1), V.one (cL r.2.2)] [] := by
 refine Gives.intro func94 rfl rfl rfl rfl ?_; refine fx fun w0 T S0 ob oh hm => ?_
 have hF := fxe w0 T S0 19 ob oh
 unfold I_sealed at H; obtain ⟨K, hK⟩ := leK k; refine sg 3 ?_; refine WpC.seq (sr ?_); refine mv ?_; refine cB 1 ent147 (g147 k  a0 (115 : UInt8)) H fun r2 H => ?_; refine gn 1 ?_; refine cd H (fun hc H => ?_) (fun hc H => ?_)
 ·refine sg 3 ?_; cases H; exact WpC.ret rt
 ·refine WpC.skip (sr ?_); refine mv ?_; refine cB 2 ent148 (g148 k  a0 1) H fun r3 H => ?_; refine gn 5 ?_; refine WpC.seq ?_; refine S.begin mixed (by kernel_rfl) ?_; refine S.st 0 rfl rfl ((Ca.move).quiet) (fun Q0 k0 => mv (L.nil k0)) ?_; refine S.st 1 rfl rfl ((Ca.move).quiet) (fun Q0 k0 => mv (L.nil k0)) ?_; refine S.st 2 rfl rfl ((Ca.move).quiet) (fun Q0 k0 => mv (L.nil k0)) ?_; obtain ⟨b4, hb4, H⟩ := bindS H; refine S.st 3 rfl rfl ((Ca.slice).quiet) (fun Q0 k0 => L.cutS underlying9 hF rfl rfl rfl rfl rfl hb4 (L.nil k0)) ?_; refine S.st 4 rfl rfl ((Ca.assign).quiet) (fun Q0 k0 => ag (L.nil k0)) ?_; refine S.st 5 rfl rfl ((Ca.assign).quiet) (fun Q0 k0 => ag (L.nil k0)) ?_; refine S.st 6 rfl rfl ((Ca.assign).quiet) (fun Q0 k0 => ag (L.nil k0)) ?_; refine S.nil ?_; cases H; exact WpC.ret rt
/-! ### I_Open -/
def I_Open (k : Nat) (a0 : List UInt8) (a1 : Int) : Option (List UInt8 × Bool) := (I_sealed k a0).bind fun r1 => cond (!r1.2.2) (some (([] : List UInt8), false)) (cond (r1.1 != a1) (some (([] : List UInt8), false)) (some (r1.2.1, true)))
theorem ent244 : MG.Enters Tryz.prog 244 := en func244
theorem g244 (k : Nat) (a0 : List UInt8) (a1 : Int) (r : List UInt8 × Bool) (H : I_Open k a0 a1 = some r) : Gives Tryz.prog 244 [V.one (cS a0), V.one (cI a1)] [] [V.one (cS r.1), V.one (cL r.2)] [] := by
 refine Gives.intro func244 rfl rfl rfl rfl ?_; refine fx fun w0 T S0 ob oh hm => ?_
 have hF := fxe w0 T S0 23 ob oh
 unfold I_Open at H; obtain ⟨K, hK⟩ := leK k; refine sg 2 ?_; refine sy 1 ?_; refine cB 2 ent94 (g94 k  a0) H fun r1 H => ?_; refine gn 7 ?_; refine WpC.seq (sr ?_); refine go 3 ?_; refine sH H (fun hc H => ?_) (fun hc H => ?_)
 ·refine gn 4 ?_; refine cT ?_; refine sg 2 ?_; cases H; exact WpC.ret rt
 ·refine gn 4 ?_; refine cd H (fun hc H => ?_) (fun hc H => ?_)
  ·refine sg 2 ?_; cases H; exact WpC.ret rt
  ·refine WpC.skip (sr ?_); refine gn 3 ?_; cases H; exact WpC.ret rt
/-! ### I_RealmOf -/
def I_RealmOf.j2 (k : Nat) (v11 : Int) (v12 : Bool) (v13 : T_Config) : Option Int := cond v12 (some (-1)) (cond (decide (v11 < 3)) ((at? v13.UserRealm v11).bind fun b14 => some b14) ((at? v13.ServiceRealm (IntKind.i64.wrap (v11 - 3))).bind fun b15 => some b15))
def I_RealmOf (k : Nat) (a0 : T_Config) (a1 : Int) : Option Int := (I_ConfigOk k a0).bind fun r16 => cond (!r16) (I_RealmOf.j2 k a1 true a0) ((I_isPrincipal k a1).bind fun r17 => I_RealmOf.j2 k a1 (!r17) a0)
theorem ent57 : MG.Enters Tryz.prog 57 := en func57
theorem g57 (k : Nat) (g0 g1 g2 g3 : Bool) (a0 : T_Config) (a1 r : Int) (H : I_RealmOf k a0 a1 = some r) : Gives Tryz.prog 57 [V.agg (bT_Config g0 g1 g2 g3 a0), V.one (cI a1)] [] [V.one (cI r)] [] := by
 refine Gives.intro func57 rfl rfl rfl rfl ?_; refine fx fun w0 T S0 ob oh hm => ?_
 have hF := fxe w0 T S0 28 ob oh
 unfold I_RealmOf at H; obtain ⟨K, hK⟩ := leK k; refine sr ?_; refine bo 6 ?_; refine gn 1 ?_; refine WpC.seq (WpC.block ?_); refine WpC.join (fun σ => ∃ (kj2 : Nat) (v11 : Int) (v12 : Bool) (v13 : T_Config), kj2 ≤ K ∧ I_RealmOf.j2 kj2 v11 v12 v13 = some r ∧ σ = mkSt [(1, oI v11), (2, oP 0 0), (5, oL v12)] [] [(0, (bT_Config g0 g1 g2 g3 v13))] 1) ?_ ?_
 ·rintro _ ⟨kj2, v11, v12, v13, hkj2, H, rfl⟩
  unfold I_RealmOf.j2 at H; refine cd H (fun hc H => ?_) (fun hc H => ?_)
  ·refine sg 1 ?_; cases H; exact WpC.ret rt
  ·refine sg 3 ?_; refine cd H (fun hc H => ?_) (fun hc H => ?_)
   ·refine sy 3 ?_; obtain ⟨b14, hb14, H⟩ := bindS H; refine ix underlying24 info3 hb14 ?_; refine gn 2 ?_; cases H; exact WpC.ret rt
   ·refine WpC.skip (sr ?_); refine go 4 ?_; obtain ⟨b15, hb15, H⟩ := bindS H; refine ix underlying24 info3 hb15 ?_; refine gn 2 ?_; cases H; exact WpC.ret rt
 ·refine WpC.regionL ?_; refine lp shape27 ?_; refine cB 7 ent54 (g54 k g0 g1 g2 g3 a0) H fun r16 H => ?_; refine go 2 ?_; refine sH H (fun hc H => ?_) (fun hc H => ?_)
  ·refine gn 5 ?_; exact ⟨_, ⟨k, a1, true, a0, by omega, H, rfl⟩, lm [(0, 6)] hm⟩
  ·refine mv ?_; refine cB 8 ent53 (g53 k  a1) H fun r17 H => ?_; refine gn 3 ?_; exact ⟨_, ⟨k, a1, (!r17), a0, by omega, H, rfl⟩, lm [(0, 6)] hm⟩
/-! ### I_apart -/
def I_apart (k : Nat) (a0 a1 : Int) : Option Int := some (if (IntKind.i64.wrap (a1 - a0)) > (IntKind.i64.wrap (a0 - a1)) then (IntKind.i64.wrap (a1 - a0)) else (IntKind.i64.wrap (a0 - a1)))
theorem ent245 : MG.Enters Tryz.prog 245 := en func245
theorem g245 (k : Nat) (a0 a1 r : Int) (H : I_apart k a0 a1 = some r) : Gives Tryz.prog 245 [V.one (cI a0), V.one (cI a1)] [] [V.one (cI r)] [] := by
 refine Gives.intro func245 rfl rfl rfl rfl ?_; refine fx fun w0 T S0 ob oh hm => ?_
 have hF := fxe w0 T S0 12 ob oh
 unfold I_apart at H; obtain ⟨K, hK⟩ := leK k; refine sg 1 ?_; refine sy 6 ?_; refine L.maxI hF rfl rfl rfl rfl ?_; refine gn 1 ?_; cases H; exact WpC.ret rt
/-! ### I_CentreKey -/
def I_CentreKey (k : Nat) (a0 : Int) : Option Int := (I_isRealm k a0).bind fun r2 => cond (!r2) (some 0) (some (IntKind.i64.wrap (21 + a0)))
theorem ent71 : MG.Enters Tryz.prog 71 := en func71
theorem g71 (k : Nat) (a0 r : Int) (H : I_CentreKey k a0 = some r) : Gives Tryz.prog 71 [V.one (cI a0)] [] [V.one (cI r)] [] := by
 refine Gives.intro func71 rfl rfl rfl rfl ?_; refine fx fun w0 T S0 ob oh hm => ?_
 have hF := fxe w0 T S0 8 ob oh
 unfold I_CentreKey at H; obtain ⟨K, hK⟩ := leK k; refine sg 1 ?_; refine WpC.seq (sr ?_); refine mv ?_; refine cB 1 ent102 (g102 k  a0) H fun r2 H => ?_; refine gn 1 ?_; refine cd H (fun hc H => ?_) (fun hc H => ?_)
 ·refine sg 1 ?_; cases H; exact WpC.ret rt
 ·refine WpC.skip (sr ?_); refine gn 3 ?_; cases H; exact WpC.ret rt
/-! ### I_ticketOk -/
def I_ticketOk (k : Nat) (a0 : T_Ticket) : Option Bool := (I_isPrincipal k a0.Client).bind fun r7 => cond r7 ((I_isFor k a0.Service).bind fun r8 => cond r8 ((I_isKey k a0.Key).bind fun r9 => cond r9 ((I_RestOk k a0.Rest).bind fun r10 => cond r10 ((I_areAll__impl_isRealm k a0.Path 6).bind fun r11 => cond r11 ((I_areAll__impl_isService k a0.Via 4).bind fun r12 => some r12) (some false)) (some false)) (some false)) (some false)) (some false)
theorem ent292 : MG.Enters Tryz.prog 292 := en func292
theorem g292 (k : Nat) (g0 g1 : Bool) (a0 : T_Ticket) (r : Bool) (H : I_ticketOk k a0 = some r) : Gives Tryz.prog 292 [V.agg (bT_Ticket g0 g1 a0)] [] [V.one (cL r)] [] := by
 refine Gives.intro func292 rfl rfl rfl rfl ?_; refine fx fun w0 T S0 ob oh hm => ?_
 have hF := fxe w0 T S0 31 ob oh
 unfold I_ticketOk at H; obtain ⟨K, hK⟩ := leK k; refine sr ?_; refine bo 8 ?_; refine gn 1 ?_; refine sy 2 ?_; refine cB 9 ent53 (g53 k  a0.Client) H fun r7 H => ?_; refine mv ?_; refine sH H (fun hc H => ?_) (fun hc H => ?_)
 ·refine go 2 ?_; refine cB 10 ent162 (g162 k  a0.Service) H fun r8 H => ?_; refine go 2 ?_; refine sH H (fun hc H => ?_) (fun hc H => ?_)
  ·refine go 2 ?_; refine cB 11 ent50 (g50 k  a0.Key) H fun r9 H => ?_; refine go 2 ?_; refine sH H (fun hc H => ?_) (fun hc H => ?_)
   ·refine go 2 ?_; refine cB 12 ent56 (g56 k  a0.Rest) H fun r10 H => ?_; refine go 2 ?_; refine sH H (fun hc H => ?_) (fun hc H => ?_)
    ·refine go 2 ?_; refine cB 13 ent104 (g104 k g0 a0.Path 6) H fun r11 H => ?_; refine go 2 ?_; refine sH H (fun hc H => ?_) (fun hc H => ?_)
     ·refine go 2 ?_; refine cB 14 ent104 (I_areAll__impl_isService_gives k g1 a0.Via 4) H fun r12 H => ?_; refine gn 2 ?_; cases H; exact WpC.ret rt
     ·refine gn 5 ?_; cases H; exact WpC.ret rt
    ·refine gn 10 ?_; cases H; exact WpC.ret rt
   ·refine gn 15 ?_; cases H; exact WpC.ret rt
  ·refine gn 20 ?_; cases H; exact WpC.ret rt
 ·refine gn 25 ?_; cases H; exact WpC.ret rt
/-! ### I_KeyTerm -/
def I_KeyTerm (k : Nat) (a0 : Int) : Option (List UInt8) := (I_Var k a0).bind fun r1 => cond (decide (([107] : List UInt8).length + r1.length ≤ 9223372036854775807)) ((I_term k (([107] : List UInt8) ++ r1)).bind fun r3 => some r3) none
theorem ent277 : MG.Enters Tryz.prog 277 := en func277
theorem g277 (k : Nat) (a0 : Int) (r : List UInt8) (H : I_KeyTerm k a0 = some r) : Gives Tryz.prog 277 [V.one (cI a0)] [] [V.one (cS r)] [] := by
 refine Gives.intro func277 rfl rfl rfl rfl ?_; refine fx fun w0 T S0 ob oh hm => ?_
 have hF := fxe w0 T S0 7 ob oh
 unfold I_KeyTerm at H; obtain ⟨K, hK⟩ := leK k; refine sg 1 ?_; refine sy 1 ?_; refine cB 1 ent231 (g231 k  a0) H fun r1 H => ?_; obtain ⟨h2, H⟩ := condG H; refine L.catS hF rfl rfl rfl rfl (of_decide_eq_true h2) ?_; refine cB 2 ent241 (g241 k  (([107] : List UInt8) ++ r1)) H fun r3 H => ?_; refine gn 1 ?_; cases H; exact WpC.ret rt
/-! ### I_ShowTicket -/
def I_ShowTicket (k : Nat) (a0 : T_Ticket) (a1 : Int) : Option (List UInt8) := (I_ticketOk k a0).bind fun r2 => cond (!r2) (some ([] : List UInt8)) ((I_Nums k ([a0.Client, a0.Service] : List Int)).bind fun r3 => (I_KeyTerm k a0.Key).bind fun r4 => (I_ShowRest k a0.Rest).bind fun r5 => (I_Nums k a0.Path).bind fun r6 => (I_Nums k a0.Via).bind fun r7 => (I_List k ([r3, r4, r5, r6, r7] : List (List UInt8))).bind fun r8 => (I_Seal k a1 r8).bind fun r9 => some r9)
theorem ent275 : MG.Enters Tryz.prog 275 := en func275
theorem g275 (k : Nat) (g0 g1 : Bool) (a0 : T_Ticket) (a1 : Int) (r : List UInt8) (H : I_ShowTicket k a0 a1 = some r) : Gives Tryz.prog 275 [V.agg (bT_Ticket g0 g1 a0), V.one (cI a1)] [] [V.one (cS r)] [] := by
 refine Gives.intro func275 rfl rfl rfl rfl ?_; refine fx fun w0 T S0 ob oh hm => ?_
 have hF := fxe w0 T S0 30 ob oh
 unfold I_ShowTicket at H; obtain ⟨K, hK⟩ := leK k; refine sr ?_; refine bo 9 ?_; refine gn 1 ?_; refine WpC.seq (sr ?_); refine lp shape235 ?_; refine cB 10 ent292 (g292 k g0 g1 a0) H fun r2 H => ?_; refine gn 1 ?_; refine cd H (fun hc H => ?_) (fun hc H => ?_)
 ·refine sg 1 ?_; cases H; exact WpC.ret rt
 ·refine WpC.skip (WpC.seq ?_); obtain ⟨r3, hr3, H⟩ := bindS H; obtain ⟨r4, hr4, H⟩ := bindS H; obtain ⟨r5, hr5, H⟩ := bindS H; obtain ⟨r6, hr6, H⟩ := bindS H; obtain ⟨r7, hr7, H⟩ := bindS H; obtain ⟨r8, hr8, H⟩ := bindS H; obtain ⟨r9, hr9, H⟩ := bindS H
  apply ldT ⟨[e0 1 _, e0 2 _, (4, [(23, some _), (0, some _)]), ed 8 1 _, ed 9 2 _, ed 10 3 _, ed 11 4 _, ed 12 5 _, ed 13 6 _, ed 14 7 _, ed 15 8 _, ed 16 9 _, ed 17 10 _, ed 18 11 _, ed 19 12 _, ed 20 13 _, ed 21 14 _, ed 22 15 _, ed 23 16 _, ed 24 17 _, ed 25 18 _, ed 26 19 _, ed 27 20 _, ed 28 21 _, ed 29 22 _], [ed 11 6 _, ed 17 20 _], [e0 9 _], 20, []⟩ [(0, 6291456), (0, 8163940), (2, 8163936), (0, 8163952), (8, 8163936), (30, 8163904), (62, 8163840), (0, 8164096), (128, 8163840), (510, 8163328), (0, 8165376), (1024, 8163328), (4094, 8159232), (0, 8175616), (8192, 8159232), (32766, 8126464), (0, 8257536), (65536, 8126464), (262142, 7864320), (524286, 7340032), (1048574, 6291456), (2097151, 4194304), (4194303, 0)] mixed ?L1 ?_
  case L1 =>
   repeat refine ls ?_
   apply lc 20 11 1 [13] [11] [] ?h1_5 ?q1_5 ?_
   case h1_5 =>
    intro b; refine L.buildSlice (e := eI) 20 ([a0.Client, a0.Service] : List Int) underlying24 info3 rfl rfl rfl hF rfl rfl rfl rfl rfl rfl rfl rfl ?_; exact L.nil ⟨rfl, rfl, rfl, rfl⟩
   case' q1_5 => skip
   apply lc 20 12 1 [14] [] [] ?h1_6 ?q1_6 ?_
   case h1_6 =>
    intro b; refine ca [false] [11] [] 20 ent219 (g219 k false ([a0.Client, a0.Service] : List Int) r3 hr3) ?_; exact L.nil ⟨rfl, rfl, rfl, rfl⟩
   case' q1_6 => skip
   repeat refine ls ?_
   apply lc 20 13 1 [17] [] [] ?h1_9 ?q1_9 ?_
   case h1_9 =>
    intro b; refine c0 20 ent277 (g277 k  a0.Key r4 hr4) ?_; exact L.nil ⟨rfl, rfl, rfl, rfl⟩
   case' q1_9 => skip
   repeat refine ls ?_
   apply lc 20 14 1 [20] [] [] ?h1_12 ?q1_12 ?_
   case h1_12 =>
    intro b; refine c0 20 ent223 (g223 k  a0.Rest r5 hr5) ?_; exact L.nil ⟨rfl, rfl, rfl, rfl⟩
   case' q1_12 => skip
   repeat refine ls ?_
   apply lc 20 15 1 [23] [] [] ?h1_15 ?q1_15 ?_
   case h1_15 =>
    intro b; refine c0 20 ent219 (g219 k g0 a0.Path r6 hr6) ?_; exact L.nil ⟨rfl, rfl, rfl, rfl⟩
   case' q1_15 => skip
   repeat refine ls ?_
   apply lc 20 16 1 [26] [] [] ?h1_18 ?q1_18 ?_
   case h1_18 =>
    intro b; refine c0 20 ent219 (g219 k g1 a0.Via r7 hr7) ?_; exact L.nil ⟨rfl, rfl, rfl, rfl⟩
   case' q1_18 => skip
   apply lc 20 17 1 [27] [17] [] ?h1_19 ?q1_19 ?_
   case h1_19 =>
    intro b; refine L.buildSlice (e := eS) 20 ([r3, r4, r5, r6, r7] : List (List UInt8)) underlying34 info9 rfl rfl rfl hF rfl rfl rfl rfl rfl rfl rfl rfl ?_; exact L.nil ⟨rfl, rfl, rfl, rfl⟩
   case' q1_19 => skip
   apply lc 20 18 1 [28] [] [] ?h1_20 ?q1_20 ?_
   case h1_20 =>
    intro b; refine ca [false] [17] [] 20 ent218 (g218 k false ([r3, r4, r5, r6, r7] : List (List UInt8)) r8 hr8) ?_; exact L.nil ⟨rfl, rfl, rfl, rfl⟩
   case' q1_20 => skip
   apply lc 20 19 1 [29] [] [] ?h1_21 ?q1_21 ?_
   case h1_21 =>
    intro b; refine c0 20 ent220 (g220 k  a1 r8 r9 hr9) ?_; exact L.nil ⟨rfl, rfl, rfl, rfl⟩
   case' q1_21 => skip
   repeat refine ls ?_
   exact trivial
   all_goals exact lq
  cases H; exact WpC.ret rt
/-! ### I_grantOk -/
def I_grantOk (k : Nat) (a0 : T_Grant) : Option Bool := (I_isKey k a0.Key).bind fun r5 => cond r5 ((I_isFor k a0.Service).bind fun r6 => cond r6 ((I_within k a0.Nonce 0 1000000).bind fun r7 => cond r7 ((I_RestOk k a0.Rest).bind fun r8 => some r8) (some false)) (some false)) (some false)
theorem ent276 : MG.Enters Tryz.prog 276 := en func276
theorem g276 (k : Nat) (a0 : T_Grant) (r : Bool) (H : I_grantOk k a0 = some r) : Gives Tryz.prog 276 [V.agg (bT_Grant a0)] [] [V.one (cL r)] [] := by
 refine Gives.intro func276 rfl rfl rfl rfl ?_; refine fx fun w0 T S0 ob oh hm => ?_
 have hF := fxe w0 T S0 21 ob oh
 unfold I_grantOk at H; obtain ⟨K, hK⟩ := leK k; refine sr ?_; refine bo 6 ?_; refine gn 1 ?_; refine sy 2 ?_; refine cB 7 ent50 (g50 k  a0.Key) H fun r5 H => ?_; refine mv ?_; refine sH H (fun hc H => ?_) (fun hc H => ?_)
 ·refine go 2 ?_; refine cB 8 ent162 (g162 k  a0.Service) H fun r6 H => ?_; refine go 2 ?_; refine sH H (fun hc H => ?_) (fun hc H => ?_)
  ·refine go 2 ?_; refine cB 9 ent52 (g52 k  a0.Nonce 0 1000000) H fun r7 H => ?_; refine go 2 ?_; refine sH H (fun hc H => ?_) (fun hc H => ?_)
   ·refine go 2 ?_; refine cB 10 ent56 (g56 k  a0.Rest) H fun r8 H => ?_; refine gn 2 ?_; cases H; exact WpC.ret rt
   ·refine gn 5 ?_; cases H; exact WpC.ret rt
  ·refine gn 10 ?_; cases H; exact WpC.ret rt
 ·refine gn 15 ?_; cases H; exact WpC.ret rt
/-! ### I_ShowGrant -/
def I_ShowGrant (k : Nat) (a0 : T_Grant) (a1 : Int) : Option (List UInt8) := (I_grantOk k a0).bind fun r2 => cond (!r2) (some ([] : List UInt8)) ((I_KeyTerm k a0.Key).bind fun r3 => (I_Nums k ([a0.Service, a0.Nonce] : List Int)).bind fun r4 => (I_ShowRest k a0.Rest).bind fun r5 => (I_List k ([r3, r4, r5] : List (List UInt8))).bind fun r6 => (I_Seal k a1 r6).bind fun r7 => some r7)
theorem ent252 : MG.Enters Tryz.prog 252 := en func252
theorem g252 (k : Nat) (a0 : T_Grant) (a1 : Int) (r : List UInt8) (H : I_ShowGrant k a0 a1 = some r) : Gives Tryz.prog 252 [V.agg (bT_Grant a0), V.one (cI a1)] [] [V.one (cS r)] [] := by
 refine Gives.intro func252 rfl rfl rfl rfl ?_; refine fx fun w0 T S0 ob oh hm => ?_
 have hF := fxe w0 T S0 24 ob oh
 unfold I_ShowGrant at H; obtain ⟨K, hK⟩ := leK k; refine sr ?_; refine bo 7 ?_; refine gn 1 ?_; refine WpC.seq (sr ?_); refine lp shape231 ?_; refine cB 8 ent276 (g276 k  a0) H fun r2 H => ?_; refine gn 1 ?_; refine cd H (fun hc H => ?_) (fun hc H => ?_)
 ·refine sg 1 ?_; cases H; exact WpC.ret rt
 ·refine WpC.skip (WpC.seq ?_); obtain ⟨r3, hr3, H⟩ := bindS H; obtain ⟨r4, hr4, H⟩ := bindS H; obtain ⟨r5, hr5, H⟩ := bindS H; obtain ⟨r6, hr6, H⟩ := bindS H; obtain ⟨r7, hr7, H⟩ := bindS H
  apply ldT ⟨[e0 1 _, e0 2 _, (4, [(17, some _), (0, some _)]), ed 8 1 _, ed 9 2 _, ed 10 3 _, ed 11 4 _, ed 12 5 _, ed 13 6 _, ed 14 7 _, ed 15 8 _, ed 16 9 _, ed 17 10 _, ed 18 11 _, ed 19 12 _, ed 20 13 _, ed 21 14 _, ed 22 15 _, ed 23 16 _], [ed 10 9 _, ed 13 14 _], [e0 7 _], 16, []⟩ [(0, 98304), (0, 127500), (2, 127496), (6, 127488), (0, 127776), (16, 127744), (0, 127872), (64, 127744), (240, 127488), (510, 126976), (0, 129024), (1024, 126976), (4094, 122880), (8190, 114688), (16382, 98304), (32767, 65536), (65535, 0)] mixed ?L1 ?_
  case L1 =>
   repeat refine ls ?_
   apply lc 16 9 1 [11] [] [] ?h1_3 ?q1_3 ?_
   case h1_3 =>
    intro b; refine c0 16 ent277 (g277 k  a0.Key r3 hr3) ?_; exact L.nil ⟨rfl, rfl, rfl, rfl⟩
   case' q1_3 => skip
   repeat refine ls ?_
   apply lc 16 10 1 [16] [10] [] ?h1_8 ?q1_8 ?_
   case h1_8 =>
    intro b; refine L.buildSlice (e := eI) 16 ([a0.Service, a0.Nonce] : List Int) underlying24 info3 rfl rfl rfl hF rfl rfl rfl rfl rfl rfl rfl rfl ?_; exact L.nil ⟨rfl, rfl, rfl, rfl⟩
   case' q1_8 => skip
   apply lc 16 11 1 [17] [] [] ?h1_9 ?q1_9 ?_
   case h1_9 =>
    intro b; refine ca [false] [10] [] 16 ent219 (g219 k false ([a0.Service, a0.Nonce] : List Int) r4 hr4) ?_; exact L.nil ⟨rfl, rfl, rfl, rfl⟩
   case' q1_9 => skip
   repeat refine ls ?_
   apply lc 16 12 1 [20] [] [] ?h1_12 ?q1_12 ?_
   case h1_12 =>
    intro b; refine c0 16 ent223 (g223 k  a0.Rest r5 hr5) ?_; exact L.nil ⟨rfl, rfl, rfl, rfl⟩
   case' q1_12 => skip
   apply lc 16 13 1 [21] [13] [] ?h1_13 ?q1_13 ?_
   case h1_13 =>
    intro b; refine L.buildSlice (e := eS) 16 ([r3, r4, r5] : List (List UInt8)) underlying34 info9 rfl rfl rfl hF rfl rfl rfl rfl rfl rfl rfl rfl ?_; exact L.nil ⟨rfl, rfl, rfl, rfl⟩
   case' q1_13 => skip
   apply lc 16 14 1 [22] [] [] ?h1_14 ?q1_14 ?_
   case h1_14 =>
    intro b; refine ca [false] [13] [] 16 ent218 (g218 k false ([r3, r4, r5] : List (List UInt8)) r6 hr6) ?_; exact L.nil ⟨rfl, rfl, rfl, rfl⟩
   case' q1_14 => skip
   apply lc 16 15 1 [23] [] [] ?h1_15 ?q1_15 ?_
   case h1_15 =>
    intro b; refine c0 16 ent220 (g220 k  a1 r6 r7 hr7) ?_; exact L.nil ⟨rfl, rfl, rfl, rfl⟩
   case' q1_15 => skip
   repeat refine ls ?_
   exact trivial
   all_goals exact lq
  cases H; exact WpC.ret rt
/-! ### I_asked_given -/
def I_asked_given (k : Nat) (a0 : T_asked) (a1 : T_Event) (a2 : T_Ticket) (a3 a4 : Int) : Option T_Reply := (I_Nums k ([3, a0.nonce] : List Int)).bind fun r1 => (I_ShowTicket k a2 a3).bind fun r2 => (I_ShowGrant k (⟨a2.Key, a2.Service, a0.nonce, a2.Rest⟩ : T_Grant) a4).bind fun r3 => (I_List k ([r1, r2, r3] : List (List UInt8))).bind fun r4 => cond (r4 == ([] : List UInt8)) (some (⟨1, ([] : List UInt8), (⟨0, 0, 0, 0, 0, 0, 0, 0, (⟨0, 0, 0⟩ : T_Rest)⟩ : T_Event)⟩ : T_Reply)) (some (⟨0, r4, (⟨a1.Kind, a0.realm, a1.By, a1.Client, a2.Service, a2.Key, a1.Parent, a1.Evid, a2.Rest⟩ : T_Event)⟩ : T_Reply))
theorem ent246 : MG.Enters Tryz.prog 246 := en func246
theorem g246 (k : Nat) (g0 g1 g2 g3 g4 g5 g6 : Bool) (a0 : T_asked) (a1 : T_Event) (a2 : T_Ticket) (a3 a4 : Int) (r : T_Reply) (H : I_asked_given k a0 a1 a2 a3 a4 = some r) : Gives Tryz.prog 246 [V.agg (bT_asked g0 g1 g2 g3 g4 a0), V.agg (bT_Event a1), V.agg (bT_Ticket g5 g6 a2), V.one (cI a3), V.one (cI a4)] [] [V.agg (bT_Reply r)] [] := by
 refine Gives.intro func246 rfl rfl rfl rfl ?_; refine fx fun w0 T S0 ob oh hm => ?_
 have hF := fxe w0 T S0 52 ob oh
 unfold I_asked_given at H; obtain ⟨K, hK⟩ := leK k; refine sr ?_; refine bo 31 ?_; refine bo 32 ?_; refine bo 33 ?_; refine alc 34 info199 (L.nil ?_); refine sy 8 ?_; refine bf built231 ?_; refine alc 35 info231 ?_; refine gn 1 ?_; refine WpC.seq ?_; obtain ⟨r1, hr1, H⟩ := bindS H; obtain ⟨r2, hr2, H⟩ := bindS H; obtain ⟨r3, hr3, H⟩ := bindS H; obtain ⟨r4, hr4, H⟩ := bindS H
 apply ldT ⟨[e0 3 _, e0 4 _, e0 5 _, e0 6 _, e0 7 _, e0 10 _, e0 11 _, ed 12 13 _, ed 22 1 _, ed 23 2 _, ed 24 3 _, ed 25 4 _, ed 26 5 _, ed 27 6 _, ed 28 7 _, ed 29 8 _, ed 30 9 _, ed 31 10 _, ed 32 11 _, ed 33 12 _], [ed 36 3 _, ed 40 11 _], [e0 31 _, e0 32 _, e0 33 _, e0 34 _, e0 35 _], 42, []⟩ [(0, 7758), (1, 7756), (3, 7752), (7, 7744), (0, 7744), (0, 7744), (63, 7680), (0, 7680), (0, 7680), (511, 7168), (1023, 6144), (2047, 4096), (4095, 0)] mixed ?L1 ?_
 case L1 =>
  repeat refine ls ?_
  apply lc 42 36 1 [24] [36] [] ?h1_2 ?q1_2 ?_
  case h1_2 =>
   intro b; refine L.buildSlice (e := eI) 42 ([3, a0.nonce] : List Int) underlying24 info3 rfl rfl rfl hF rfl rfl rfl rfl rfl rfl rfl rfl ?_; exact L.nil ⟨rfl, rfl, rfl, rfl⟩
  case' q1_2 => skip
  apply lc 42 37 1 [25] [] [] ?h1_3 ?q1_3 ?_
  case h1_3 =>
   intro b; refine ca [false] [36] [] 42 ent219 (g219 k false ([3, a0.nonce] : List Int) r1 hr1) ?_; exact L.nil ⟨rfl, rfl, rfl, rfl⟩
  case' q1_3 => skip
  repeat refine ls ?_
  apply lc 42 38 1 [28] [] [] ?h1_6 ?q1_6 ?_
  case h1_6 =>
   intro b; refine c0 42 ent275 (g275 k g5 g6 a2 a3 r2 hr2) ?_; exact L.nil ⟨rfl, rfl, rfl, rfl⟩
  case' q1_6 => skip
  repeat refine ls ?_
  apply lc 42 39 1 [31] [] [] ?h1_9 ?q1_9 ?_
  case h1_9 =>
   intro b; refine c0 42 ent252 (g252 k  (⟨a2.Key, a2.Service, a0.nonce, a2.Rest⟩ : T_Grant) a4 r3 hr3) ?_; exact L.nil ⟨rfl, rfl, rfl, rfl⟩
  case' q1_9 => skip
  apply lc 42 40 1 [32] [40] [] ?h1_10 ?q1_10 ?_
  case h1_10 =>
   intro b; refine L.buildSlice (e := eS) 42 ([r1, r2, r3] : List (List UInt8)) underlying34 info9 rfl rfl rfl hF rfl rfl rfl rfl rfl rfl rfl rfl ?_; exact L.nil ⟨rfl, rfl, rfl, rfl⟩
  case' q1_10 => skip
  apply lc 42 41 1 [33] [] [] ?h1_11 ?q1_11 ?_
  case h1_11 =>
   intro b; refine ca [false] [40] [] 42 ent218 (g218 k false ([r1, r2, r3] : List (List UInt8)) r4 hr4) ?_; exact L.nil ⟨rfl, rfl, rfl, rfl⟩
  case' q1_11 => skip
  repeat refine ls ?_
  exact trivial
  all_goals exact lq
 refine WpC.seq (sr ?_); refine mv ?_; refine L.binS hF rfl rfl rfl rfl rfl (L.nil ?_); refine cd H (fun hc H => ?_) (fun hc H => ?_)
 ·refine sr ?_; refine bf built199 ?_; refine gn 1 ?_; cases H; exact WpC.ret rt
 ·refine WpC.skip (sr ?_); refine gn 4 ?_; refine sg 4 ?_; refine sg 4 ?_; refine sg 4 ?_; refine sy 2 ?_; refine bf built199 ?_; refine gn 1 ?_; cases H; exact WpC.ret rt
/-! ### I_asked_login -/
def I_asked_login.j2 (k : Nat) (v16 : Int) (v17 : List Int) (v18 : Bool) (v19 : T_asked) : Option T_Reply := cond v18 (some (⟨2, ([] : List UInt8), (⟨0, 0, 0, 0, 0, 0, 0, 0, (⟨0, 0, 0⟩ : T_Rest)⟩ : T_Event)⟩ : T_Reply)) ((at? v17 1).bind fun b20 => (I_apart k b20 v19.now).bind fun r21 => cond (decide (r21 > v19.c.Skew)) (some (⟨3, ([] : List UInt8), (⟨0, 0, 0, 0, 0, 0, 0, 0, (⟨0, 0, 0⟩ : T_Rest)⟩ : T_Event)⟩ : T_Reply)) (cond (decide ((IntKind.i64.wrap (v19.now + 50)) > 100000)) (some (⟨4, ([] : List UInt8), (⟨0, 0, 0, 0, 0, 0, 0, 0, (⟨0, 0, 0⟩ : T_Rest)⟩ : T_Event)⟩ : T_Reply)) ((I_CentreKey k v19.realm).bind fun r22 => (I_PrincipalKey k v16).bind fun r23 => (I_asked_given k v19 (⟨1, 0, v16, v16, 0, 0, 0, 0, (⟨0, 0, 0⟩ : T_Rest)⟩ : T_Event) (⟨v16, (IntKind.i64.wrap (10 + v19.realm)), v19.fresh, (⟨7, 255, (IntKind.i64.wrap (v19.now + 50))⟩ : T_Rest), [], []⟩ : T_Ticket) r22 r23).bind fun r24 => some r24)))
def I_asked_login (k : Nat) (a0 : T_asked) (a1 : Int) : Option T_Reply := (at? a0.parts 1).bind fun b1 => (I_PrincipalKey k a1).bind fun r2 => (I_Open k b1 r2).bind fun r3 => (I_ReadNums k r3.1).bind fun r4 => (I_RealmOf k a0.c a1).bind fun r14 => cond (r14 != a0.realm) (some (⟨1, ([] : List UInt8), (⟨0, 0, 0, 0, 0, 0, 0, 0, (⟨0, 0, 0⟩ : T_Rest)⟩ : T_Event)⟩ : T_Reply)) (cond (!r3.2) (I_asked_login.j2 k a1 r4.1 true a0) (cond (!r4.2) (I_asked_login.j2 k a1 r4.1 true a0) (cond ((r4.1.length : Int) != 2) (I_asked_login.j2 k a1 r4.1 true a0) ((at? r4.1 0).bind fun b25 => I_asked_login.j2 k a1 r4.1 (b25 != 8) a0))))
theorem ent225 : MG.Enters Tryz.prog 225 := en func225
theorem g225 (k : Nat) (g0 g1 g2 g3 g4 : Bool) (a0 : T_asked) (a1 : Int) (r : T_Reply) (H : I_asked_login k a0 a1 = some r) : Gives Tryz.prog 225 [V.agg (bT_asked g0 g1 g2 g3 g4 a0), V.one (cI a1)] [] [V.agg (bT_Reply r)] [] := by
 refine Gives.intro func225 rfl rfl rfl rfl ?_; refine fx fun w0 T S0 ob oh hm => ?_
 have hF := fxe w0 T S0 93 ob oh
 unfold I_asked_login at H; obtain ⟨K, hK⟩ := leK k; refine sr ?_; refine bo 11 ?_; refine alc 12 info199 (L.nil ?_); refine WpC.seq ?_; obtain ⟨b1, hb1, H⟩ := bindS H; obtain ⟨r2, hr2, H⟩ := bindS H; obtain ⟨r3, hr3, H⟩ := bindS H
 apply ldT ⟨[e0 1 _, e0 2 _, e0 4 _, ed 5 11 _, ed 6 12 _, ed 10 8 _, ed 11 1 _, ed 12 2 _, ed 13 3 _, ed 14 4 _, ed 15 5 _, ed 16 6 _, ed 17 7 _, ed 18 9 _, ed 19 10 _], [], [e0 11 _, e0 12 _], 16, []⟩ [(0, 4046), (1, 4044), (3, 4040), (7, 4032), (0, 4064), (16, 4032), (63, 3968), (127, 3840), (255, 3072), (255, 2048), (511, 2048), (2047, 0)] mixed ?L1 ?_
 case L1 =>
  repeat refine ls ?_
  apply lc 16 13 0 [13] [] [] ?h1_2 ?q1_2 ?_
  case h1_2 =>
   intro b; refine ix underlying34 info9 hb1 ?_; exact L.nil ⟨rfl, rfl, rfl, rfl⟩
  case' q1_2 => skip
  repeat refine ls ?_
  apply lc 16 13 1 [16] [] [] ?h1_5 ?q1_5 ?_
  case h1_5 =>
   intro b; refine c0 16 ent17 (g17 k  a1 r2 hr2) ?_; exact L.nil ⟨rfl, rfl, rfl, rfl⟩
  case' q1_5 => skip
  apply lc 16 14 2 [17] [] [] ?h1_6 ?q1_6 ?_
  case h1_6 =>
   intro b; refine c0 16 ent244 (g244 k  b1 r2 r3 hr3) ?_; exact L.nil ⟨rfl, rfl, rfl, rfl⟩
  case' q1_6 => skip
  repeat refine ls ?_
  exact trivial
  all_goals exact lq
 refine sy 1 ?_; refine cB 16 ent224 (g224 k  r3.1) H fun r4 H => ?_; refine gn 5 ?_; refine WpC.seq (WpC.block (WpC.seq ?_)); obtain ⟨r14, hr14, H⟩ := bindS H
 apply ldT ⟨[e0 1 _, e0 2 _, e0 4 _, e0 6 _, e0 7 _, e0 8 _, ed 25 8 _, ed 26 1 _, ed 27 2 _, ed 28 3 _, ed 29 4 _, ed 30 5 _, ed 31 6 _, ed 32 7 _], [e0 16 _], [e0 11 _, e0 12 _], 19, []⟩ [(0, 202), (1, 200), (0, 200), (7, 192), (0, 224), (16, 192), (63, 128), (127, 0)] mixed ?L2 ?_
 case L2 =>
  repeat refine ls ?_
  apply lc 19 18 1 [29] [] [] ?h2_3 ?q2_3 ?_
  case h2_3 =>
   intro b; refine c0 19 ent57 (g57 k g0 g1 g2 g3 a0.c a1 r14 hr14) ?_; exact L.nil ⟨rfl, rfl, rfl, rfl⟩
  case' q2_3 => skip
  repeat refine ls ?_
  exact trivial
  all_goals exact lq
 refine cd H (fun hc H => ?_) (fun hc H => ?_)
 ·refine sr ?_; refine bf built199 ?_; refine gn 1 ?_; cases H; exact WpC.ret rt
 ·refine WpC.join (fun σ => ∃ (kj2 : Nat) (v16 : Int) (v17 : List Int) (v18 : Bool) (v19 : T_asked), kj2 ≤ K ∧ I_asked_login.j2 kj2 v16 v17 v18 v19 = some r ∧ σ = mkSt [(1, oI v16), (2, oP 0 0), (4, oP 1 0), (7, MG.one (Cell.own 2)), (34, oL v18)] [(2, ⟨1, List.map eI v17⟩)] [(0, (bT_asked g0 g1 g2 g3 g4 v19)), (1, zc0)] 3) ?_ ?_
  ·rintro _ ⟨kj2, v16, v17, v18, v19, hkj2, H, rfl⟩
   unfold I_asked_login.j2 at H; refine cd H (fun hc H => ?_) (fun hc H => ?_)
   ·refine sr ?_; refine bf built199 ?_; refine gn 1 ?_; cases H; exact WpC.ret rt
   ·refine WpC.seq ?_; obtain ⟨b20, hb20, H⟩ := bindS H; obtain ⟨r21, hr21, H⟩ := bindS H
    apply ldT ⟨[e0 1 _, e0 2 _, e0 4 _, e0 7 _, ed 53 11 _, ed 54 1 _, ed 55 2 _, ed 56 3 _, ed 57 4 _, ed 58 5 _, ed 59 6 _, ed 60 7 _, ed 61 8 _, ed 62 9 _, ed 63 10 _], [e0 2 _], [e0 0 _, e0 1 _], 4, []⟩ [(0, 1574), (1, 1572), (3, 1568), (0, 1584), (8, 1568), (31, 1536), (0, 1920), (64, 1792), (192, 1536), (511, 1024), (1023, 0)] mixed ?L3 ?_
    case L3 =>
     repeat refine ls ?_
     apply lc 4 3 0 [55] [] [] ?h3_1 ?q3_1 ?_
     case h3_1 =>
      intro b; refine ix underlying24 info3 hb20 ?_; exact L.nil ⟨rfl, rfl, rfl, rfl⟩
     case' q3_1 => skip
     apply lc 4 3 0 [56] [] [] ?h3_2 ?q3_2 ?_
     case h3_2 =>
      intro b; refine L.loadEp (xs := v17) (e := eI) shape3 hF rfl rfl rfl rfl (at?_get hb20).2 rfl rfl ?_; exact L.nil ⟨rfl, rfl, rfl, rfl⟩
     case' q3_2 => skip
     repeat refine ls ?_
     apply lc 4 3 1 [59] [] [] ?h3_5 ?q3_5 ?_
     case h3_5 =>
      intro b; refine c0 4 ent245 (g245 kj2  b20 v19.now r21 hr21) ?_; exact L.nil ⟨rfl, rfl, rfl, rfl⟩
     case' q3_5 => skip
     repeat refine ls ?_
     exact trivial
     all_goals exact lq
    refine cd H (fun hc H => ?_) (fun hc H => ?_)
    ·refine sr ?_; refine bf built199 ?_; refine gn 1 ?_; cases H; exact WpC.ret rt
    ·refine sg 5 ?_; refine cd H (fun hc H => ?_) (fun hc H => ?_)
     ·refine sr ?_; refine bf built199 ?_; refine gn 1 ?_; cases H; exact WpC.ret rt
     ·refine WpC.skip (sr ?_); refine go 9 ?_; refine bf built29 ?_; refine bf built235 ?_; refine alc 4 info235 ?_; refine gn 1 ?_; refine WpC.seq ?_; obtain ⟨r22, hr22, H⟩ := bindS H; obtain ⟨r23, hr23, H⟩ := bindS H; obtain ⟨r24, hr24, H⟩ := bindS H
      apply ldT ⟨[e0 1 _, e0 2 _, e0 4 _, e0 9 _, ed 82 1 _, ed 83 2 _, ed 84 3 _, ed 85 4 _, ed 86 5 _, ed 87 6 _, ed 88 7 _, ed 89 8 _, ed 90 9 _, ed 91 10 _, ed 92 11 _], [], [e0 0 _, (1, [(12, some _), (0, some _)]), e0 4 _], 20, []⟩ [(0, 3072), (0, 3080), (0, 3080), (6, 3072), (0, 3072), (0, 3776), (32, 3712), (96, 3584), (0, 3584), (480, 3072), (1023, 2048), (2047, 0)] mixed ?L4 ?_
      case L4 =>
       repeat refine ls ?_
       apply lc 20 5 0 [85] [] [] ?h4_3 ?q4_3 ?_
       case h4_3 =>
        intro b; refine bf built47 ?_; exact L.nil ⟨rfl, rfl, rfl, rfl⟩
       case' q4_3 => skip
       repeat refine ls ?_
       apply lc 20 5 1 [89] [] [] ?h4_7 ?q4_7 ?_
       case h4_7 =>
        intro b; refine c0 20 ent71 (g71 kj2  v19.realm r22 hr22) ?_; exact L.nil ⟨rfl, rfl, rfl, rfl⟩
       case' q4_7 => skip
       repeat refine ls ?_
       apply lc 20 6 1 [91] [] [] ?h4_9 ?q4_9 ?_
       case h4_9 =>
        intro b; refine c0 20 ent17 (g17 kj2  v16 r23 hr23) ?_; exact L.nil ⟨rfl, rfl, rfl, rfl⟩
       case' q4_9 => skip
       apply lc 20 7 13 [92] [] [] ?h4_10 ?q4_10 ?_
       case h4_10 =>
        intro b; refine c0 20 ent246 (g246 kj2 g0 g1 g2 g3 g4 true true v19 (⟨1, 0, v16, v16, 0, 0, 0, 0, (⟨0, 0, 0⟩ : T_Rest)⟩ : T_Event) (⟨v16, (IntKind.i64.wrap (10 + v19.realm)), v19.fresh, (⟨7, 255, (IntKind.i64.wrap (v19.now + 50))⟩ : T_Rest), [], []⟩ : T_Ticket) r22 r23 r24 hr24) ?_; exact L.nil ⟨rfl, rfl, rfl, rfl⟩
       case' q4_10 => skip
       refine lb ?_; exact trivial
       all_goals exact lq
      cases H; exact WpC.ret rt
  ·refine WpC.regionL ?_; refine go 3 ?_; refine sH H (fun hc H => ?_) (fun hc H => ?_)
   ·refine gn 15 ?_; exact ⟨_, ⟨k, a1, r4.1, true, a0, by omega, H, rfl⟩, lm [(0, 11), (1, 12), (2, 16)] hm⟩
   ·refine go 4 ?_; refine sH H (fun hc H => ?_) (fun hc H => ?_)
    ·refine gn 11 ?_; exact ⟨_, ⟨k, a1, r4.1, true, a0, by omega, H, rfl⟩, lm [(0, 11), (1, 12), (2, 16)] hm⟩
    ·refine mv ?_; refine L.lenR (xs := r4.1) (e := eI) underlying24 hF rfl rfl rfl rfl ?_; refine go 3 ?_; refine sH H (fun hc H => ?_) (fun hc H => ?_)
     ·refine gn 6 ?_; exact ⟨_, ⟨k, a1, r4.1, true, a0, by omega, H, rfl⟩, lm [(0, 11), (1, 12), (2, 16)] hm⟩
     ·refine mv ?_; obtain ⟨b25, hb25, H⟩ := bindS H; refine ix underlying24 info3 hb25 ?_; refine L.loadEp (xs := r4.1) (e := eI) shape3 hF rfl rfl rfl rfl (at?_get hb25).2 rfl rfl ?_; refine gn 3 ?_; exact ⟨_, ⟨k, a1, r4.1, (b25 != 8), a0, by omega, H, rfl⟩, lm [(0, 11), (1, 12), (2, 16)] hm⟩
/-! ### I_ReadRest -/
def I_ReadRest.j2 (k : Nat) (v4 : List Int) (v5 : Bool) : Option (T_Rest × Bool) := cond v5 (some ((⟨0, 0, 0⟩ : T_Rest), false)) ((at? v4 0).bind fun b6 => (at? v4 1).bind fun b7 => (at? v4 2).bind fun b8 => (I_RestOk k (⟨b6, b7, b8⟩ : T_Rest)).bind fun r10 => cond (!r10) (some ((⟨0, 0, 0⟩ : T_Rest), false)) (some ((⟨b6, b7, b8⟩ : T_Rest), true)))
def I_ReadRest (k : Nat) (a0 : List UInt8) : Option (T_Rest × Bool) := (I_ReadNums k a0).bind fun r1 => cond (!r1.2) (I_ReadRest.j2 k r1.1 true) (I_ReadRest.j2 k r1.1 ((r1.1.length : Int) != 3))
theorem ent247 : MG.Enters Tryz.prog 247 := en func247
theorem g247 (k : Nat) (a0 : List UInt8) (r : T_Rest × Bool) (H : I_ReadRest k a0 = some r) : Gives Tryz.prog 247 [V.one (cS a0)] [] [V.agg (bT_Rest r.1), V.one (cL r.2)] [] := by
 refine Gives.intro func247 rfl rfl rfl rfl ?_; refine fx fun w0 T S0 ob oh hm => ?_
 have hF := fxe w0 T S0 35 ob oh
 unfold I_ReadRest at H; obtain ⟨K, hK⟩ := leK k; refine sr ?_; refine alc 1 info29 ?_; refine gn 1 ?_; refine sy 1 ?_; refine cB 2 ent224 (g224 k  a0) H fun r1 H => ?_; refine gn 5 ?_; refine WpC.seq ?_; refine WpC.join (fun σ => ∃ (kj2 : Nat) (v4 : List Int) (v5 : Bool), kj2 ≤ K ∧ I_ReadRest.j2 kj2 v4 v5 = some r ∧ σ = mkSt [(2, oP 0 0), (4, MG.one (Cell.own 1)), (18, oL v5)] [(1, ⟨1, List.map eI v4⟩)] [(0, [cI 0, cI 0, cI 0])] 2) ?_ ?_
 ·rintro _ ⟨kj2, v4, v5, hkj2, H, rfl⟩
  unfold I_ReadRest.j2 at H; refine cd H (fun hc H => ?_) (fun hc H => ?_)
  ·refine sr ?_; refine bf built29 ?_; refine gn 2 ?_; cases H; exact WpC.ret rt
  ·refine WpC.skip (WpC.seq ?_); obtain ⟨b6, hb6, H⟩ := bindS H; obtain ⟨b7, hb7, H⟩ := bindS H; obtain ⟨b8, hb8, H⟩ := bindS H
   apply ldT ⟨[e0 2 _, e0 4 _, ed 6 11 _, ed 20 1 _, ed 21 2 _, ed 22 3 _, ed 23 4 _, ed 24 5 _, ed 25 6 _, ed 26 7 _, ed 27 8 _, ed 28 9 _, ed 29 10 _], [e0 1 _], [e0 0 _, (2, [(12, some _), (11, some _)])], 3, []⟩ [(0, 2566), (1, 2564), (3, 2560), (0, 2608), (8, 2592), (24, 2560), (0, 2944), (64, 2816), (192, 2560), (511, 2048), (0, 2048), (2047, 0)] mixed ?L1 ?_
   case L1 =>
    repeat refine ls ?_
    apply lc 3 2 0 [21] [] [] ?h1_1 ?q1_1 ?_
    case h1_1 =>
     intro b; refine ix underlying24 info3 hb6 ?_; exact L.nil ⟨rfl, rfl, rfl, rfl⟩
    case' q1_1 => skip
    apply lc 3 2 0 [22] [] [] ?h1_2 ?q1_2 ?_
    case h1_2 =>
     intro b; refine L.loadEp (xs := v4) (e := eI) shape3 hF rfl rfl rfl rfl (at?_get hb6).2 rfl rfl ?_; exact L.nil ⟨rfl, rfl, rfl, rfl⟩
    case' q1_2 => skip
    repeat refine ls ?_
    apply lc 3 2 0 [24] [] [] ?h1_4 ?q1_4 ?_
    case h1_4 =>
     intro b; refine ix underlying24 info3 hb7 ?_; exact L.nil ⟨rfl, rfl, rfl, rfl⟩
    case' q1_4 => skip
    apply lc 3 2 0 [25] [] [] ?h1_5 ?q1_5 ?_
    case h1_5 =>
     intro b; refine L.loadEp (xs := v4) (e := eI) shape3 hF rfl rfl rfl rfl (at?_get hb7).2 rfl rfl ?_; exact L.nil ⟨rfl, rfl, rfl, rfl⟩
    case' q1_5 => skip
    repeat refine ls ?_
    apply lc 3 2 0 [27] [] [] ?h1_7 ?q1_7 ?_
    case h1_7 =>
     intro b; refine ix underlying24 info3 hb8 ?_; exact L.nil ⟨rfl, rfl, rfl, rfl⟩
    case' q1_7 => skip
    apply lc 3 2 0 [28] [] [] ?h1_8 ?q1_8 ?_
    case h1_8 =>
     intro b; refine L.loadEp (xs := v4) (e := eI) shape3 hF rfl rfl rfl rfl (at?_get hb8).2 rfl rfl ?_; exact L.nil ⟨rfl, rfl, rfl, rfl⟩
    case' q1_8 => skip
    apply lc 3 2 0 [29] [] [] ?h1_9 ?q1_9 ?_
    case h1_9 =>
     intro b; refine bf built29 ?_; exact L.nil ⟨rfl, rfl, rfl, rfl⟩
    case' q1_9 => skip
    apply lc 3 2 1 [6] [] [2] ?h1_10 ?q1_10 ?_
    case h1_10 =>
     intro b; refine alc 3 info29 ?_; exact L.nil ⟨rfl, rfl, rfl, rfl⟩
    case' q1_10 => skip
    refine lb ?_; exact trivial
    all_goals exact lq
   refine WpC.seq (sr ?_); refine lp shape29 ?_; refine cB 3 ent56 (g56 kj2  (⟨b6, b7, b8⟩ : T_Rest)) H fun r10 H => ?_; refine gn 1 ?_; refine cd H (fun hc H => ?_) (fun hc H => ?_)
   ·refine sr ?_; refine bf built29 ?_; refine gn 2 ?_; cases H; exact WpC.ret rt
   ·refine WpC.skip (sr ?_); refine gn 3 ?_; cases H; exact WpC.ret rt
 ·refine WpC.regionL ?_; refine go 3 ?_; refine sH H (fun hc H => ?_) (fun hc H => ?_)
  ·refine gn 4 ?_; exact ⟨_, ⟨k, r1.1, true, by omega, H, rfl⟩, lm [(0, 1), (1, 2)] hm⟩
  ·refine mv ?_; refine L.lenR (xs := r1.1) (e := eI) underlying24 hF rfl rfl rfl rfl ?_; refine gn 2 ?_; exact ⟨_, ⟨k, r1.1, ((r1.1.length : Int) != 3), by omega, H, rfl⟩, lm [(0, 1), (1, 2)] hm⟩
/-! ### I_ReadKey -/
def I_ReadKey (k : Nat) (a0 : List UInt8) : Option (Int × Bool) := (I_isOf k a0 (107 : UInt8)).bind fun r2 => cond (!r2) (some (0, false)) ((I_varAt k a0 1).bind fun r3 => some (r3.1, true))
theorem ent145 : MG.Enters Tryz.prog 145 := en func145
theorem g145 (k : Nat) (a0 : List UInt8) (r : Int × Bool) (H : I_ReadKey k a0 = some r) : Gives Tryz.prog 145 [V.one (cS a0)] [] [V.one (cI r.1), V.one (cL r.2)] [] := by
 refine Gives.intro func145 rfl rfl rfl rfl ?_; refine fx fun w0 T S0 ob oh hm => ?_
 have hF := fxe w0 T S0 15 ob oh
 unfold I_ReadKey at H; obtain ⟨K, hK⟩ := leK k; refine sg 2 ?_; refine WpC.seq (sr ?_); refine mv ?_; refine cB 1 ent147 (g147 k  a0 (107 : UInt8)) H fun r2 H => ?_; refine gn 1 ?_; refine cd H (fun hc H => ?_) (fun hc H => ?_)
 ·refine sg 2 ?_; cases H; exact WpC.ret rt
 ·refine WpC.skip (sr ?_); refine mv ?_; refine cB 2 ent148 (g148 k  a0 1) H fun r3 H => ?_; refine gn 5 ?_; refine sg 3 ?_; cases H; exact WpC.ret rt
/-! ### I_ReadTicket -/
def I_ReadTicket (k : Nat) (a0 : List UInt8) (a1 : Int) : Option (T_Ticket × Bool) := (I_Open k a0 a1).bind fun r1 => (I_Parts k r1.1).bind fun r2 => cond ((r2.1.length : Int) != 5) (some ((⟨0, 0, 0, (⟨0, 0, 0⟩ : T_Rest), [], []⟩ : T_Ticket), false)) ((at? r2.1 0).bind fun b3 => (I_ReadNums k b3).bind fun r4 => cond ((r4.1.length : Int) != 2) (some ((⟨0, 0, 0, (⟨0, 0, 0⟩ : T_Rest), [], []⟩ : T_Ticket), false)) ((at? r4.1 0).bind fun b5 => (at? r4.1 1).bind fun b6 => (at? r2.1 1).bind fun b7 => (I_ReadKey k b7).bind fun r8 => (at? r2.1 2).bind fun b9 => (I_ReadRest k b9).bind fun r10 => (at? r2.1 3).bind fun b11 => (I_ReadNums k b11).bind fun r12 => (at? r2.1 4).bind fun b13 => (I_ReadNums k b13).bind fun r14 => (I_ShowTicket k (⟨b5, b6, r8.1, r10.1, r12.1, r14.1⟩ : T_Ticket) a1).bind fun r16 => cond (r16 != a0) (some ((⟨0, 0, 0, (⟨0, 0, 0⟩ : T_Rest), [], []⟩ : T_Ticket), false)) (some ((⟨b5, b6, r8.1, r10.1, r12.1, r14.1⟩ : T_Ticket), true))))
theorem ent253 : MG.Enters Tryz.prog 253 := en func253
theorem g253 (k : Nat) (a0 : List UInt8) (a1 : Int) (r : T_Ticket × Bool) (H : I_ReadTicket k a0 a1 = some r) : Gives Tryz.prog 253 [V.one (cS a0), V.one (cI a1)] [] [V.agg [cI r.1.Client, cI r.1.Service, cI r.1.Key, cI r.1.Rest.Servers, cI r.1.Rest.Ops, cI r.1.Rest.End, Cell.ow 1 (List.map eI r.1.Path), Cell.ow 1 (List.map eI r.1.Via)], V.one (cL r.2)] [] := by
 refine Gives.intro func253 rfl rfl rfl rfl ?_; refine fx fun w0 T S0 ob oh hm => ?_
 have hF := fxe w0 T S0 85 ob oh
 unfold I_ReadTicket at H; obtain ⟨K, hK⟩ := leK k; refine sr ?_; refine alc 2 info235 ?_; refine gn 1 ?_; refine sy 2 ?_; refine cB 3 ent244 (g244 k  a0 a1) H fun r1 H => ?_; refine gn 5 ?_; refine sy 1 ?_; refine cB 5 ent146 (g146 k  r1.1) H fun r2 H => ?_; refine gn 5 ?_; refine WpC.seq (sr ?_); refine mv ?_; refine L.lenR (xs := r2.1) (e := eS) underlying34 hF rfl rfl rfl rfl ?_; refine gn 1 ?_; refine cd H (fun hc H => ?_) (fun hc H => ?_)
 ·refine sr ?_; refine bf built235 ?_; refine gn 2 ?_; refine WpC.le (Le.ownB 2 6 7 1 rfl rfl rfl) ?_; refine WpC.le (Le.ownB 2 7 8 1 rfl rfl rfl) ?_; cases H; exact WpC.ret rt
 ·refine WpC.skip (sr ?_); refine mv ?_; obtain ⟨b3, hb3, H⟩ := bindS H; refine ix underlying34 info9 hb3 ?_; refine L.loadEp (xs := r2.1) (e := eS) shape9 hF rfl rfl rfl rfl (at?_get hb3).2 rfl rfl ?_; refine cB 7 ent224 (g224 k  b3) H fun r4 H => ?_; refine gn 5 ?_; refine WpC.seq (sr ?_); refine mv ?_; refine L.lenR (xs := r4.1) (e := eI) underlying24 hF rfl rfl rfl rfl ?_; refine gn 1 ?_; refine cd H (fun hc H => ?_) (fun hc H => ?_)
  ·refine sr ?_; refine bf built235 ?_; refine gn 2 ?_; refine WpC.le (Le.ownB 2 6 9 1 rfl rfl rfl) ?_; refine WpC.le (Le.ownB 2 7 10 1 rfl rfl rfl) ?_; cases H; exact WpC.ret rt
  ·refine WpC.skip (WpC.seq ?_); obtain ⟨b5, hb5, H⟩ := bindS H; obtain ⟨b6, hb6, H⟩ := bindS H
   apply ldT ⟨[e0 0 _, e0 1 _, e0 4 _, e0 8 _, e0 10 _, ed 12 8 _, ed 39 1 _, ed 40 2 _, ed 41 3 _, ed 42 4 _, ed 43 5 _, ed 44 6 _, ed 45 7 _], [e0 5 _, e0 7 _], [e0 2 _, (9, [(9, some _), (8, some _)])], 10, []⟩ [(0, 326), (1, 324), (3, 320), (0, 368), (8, 352), (24, 320), (63, 256), (0, 256), (255, 0)] mixed ?L1 ?_
   case L1 =>
    repeat refine ls ?_
    apply lc 10 9 0 [40] [] [] ?h1_1 ?q1_1 ?_
    case h1_1 =>
     intro b; refine ix underlying24 info3 hb5 ?_; exact L.nil ⟨rfl, rfl, rfl, rfl⟩
    case' q1_1 => skip
    apply lc 10 9 0 [41] [] [] ?h1_2 ?q1_2 ?_
    case h1_2 =>
     intro b; refine L.loadEp (xs := r4.1) (e := eI) shape3 hF rfl rfl rfl rfl (at?_get hb5).2 rfl rfl ?_; exact L.nil ⟨rfl, rfl, rfl, rfl⟩
    case' q1_2 => skip
    repeat refine ls ?_
    apply lc 10 9 0 [43] [] [] ?h1_4 ?q1_4 ?_
    case h1_4 =>
     intro b; refine ix underlying24 info3 hb6 ?_; exact L.nil ⟨rfl, rfl, rfl, rfl⟩
    case' q1_4 => skip
    apply lc 10 9 0 [44] [] [] ?h1_5 ?q1_5 ?_
    case h1_5 =>
     intro b; refine L.loadEp (xs := r4.1) (e := eI) shape3 hF rfl rfl rfl rfl (at?_get hb6).2 rfl rfl ?_; exact L.nil ⟨rfl, rfl, rfl, rfl⟩
    case' q1_5 => skip
    apply lc 10 9 0 [45] [] [] ?h1_6 ?q1_6 ?_
    case h1_6 =>
     intro b; refine bf built235 ?_; exact L.nil ⟨rfl, rfl, rfl, rfl⟩
    case' q1_6 => skip
    apply lc 10 9 1 [12] [] [9] ?h1_7 ?q1_7 ?_
    case h1_7 =>
     intro b; refine alc 10 info235 ?_; exact L.nil ⟨rfl, rfl, rfl, rfl⟩
    case' q1_7 => skip
    refine lb ?_; exact trivial
    all_goals exact lq
   refine sy 1 ?_; obtain ⟨b7, hb7, H⟩ := bindS H; refine ix underlying34 info9 hb7 ?_; refine L.loadEp (xs := r2.1) (e := eS) shape9 hF rfl rfl rfl rfl (at?_get hb7).2 rfl rfl ?_; refine cB 10 ent145 (g145 k  b7) H fun r8 H => ?_; refine gn 5 ?_; refine sy 1 ?_; obtain ⟨b9, hb9, H⟩ := bindS H; refine ix underlying34 info9 hb9 ?_; refine L.loadEp (xs := r2.1) (e := eS) shape9 hF rfl rfl rfl rfl (at?_get hb9).2 rfl rfl ?_; refine cB 12 ent247 (g247 k  b9) H fun r10 H => ?_; refine gn 5 ?_; refine sy 1 ?_; obtain ⟨b11, hb11, H⟩ := bindS H; refine ix underlying34 info9 hb11 ?_; refine L.loadEp (xs := r2.1) (e := eS) shape9 hF rfl rfl rfl rfl (at?_get hb11).2 rfl rfl ?_; refine cB 16 ent224 (g224 k  b11) H fun r12 H => ?_; refine gn 5 ?_; refine sy 1 ?_; obtain ⟨b13, hb13, H⟩ := bindS H; refine ix underlying34 info9 hb13 ?_; refine L.loadEp (xs := r2.1) (e := eS) shape9 hF rfl rfl rfl rfl (at?_get hb13).2 rfl rfl ?_
   refine cB 18 ent224 (g224 k  b13) H fun r14 H => ?_; refine gn 5 ?_; refine WpC.seq (sr ?_); refine go 2 ?_; obtain ⟨r16, hr16, H⟩ := bindS H; refine ca [false, false] [16, 18] [] 20 ent275 (g275 k false false (⟨b5, b6, r8.1, r10.1, r12.1, r14.1⟩ : T_Ticket) a1 r16 hr16) ?_; refine mv ?_; refine L.binS hF rfl rfl rfl rfl rfl (L.nil ?_); refine cd H (fun hc H => ?_) (fun hc H => ?_)
   ·refine sr ?_; refine bf built235 ?_; refine gn 2 ?_; refine WpC.le (Le.ownB 2 6 21 1 rfl rfl rfl) ?_; refine WpC.le (Le.ownB 2 7 22 1 rfl rfl rfl) ?_; cases H; exact WpC.ret rt
   ·refine WpC.skip (sr ?_); refine gn 3 ?_; cases H; exact WpC.ret rt
/-! ### I_LinkKey -/
def I_LinkKey (k : Nat) (a0 a1 : Int) : Option Int := (I_isRealm k a0).bind fun r7 => cond (!r7) (some 0) ((I_isRealm k a1).bind fun r8 => cond (!r8) (some 0) (some (IntKind.i64.wrap ((IntKind.i64.wrap (31 + (IntKind.i64.wrap (3 * a0)))) + a1))))
theorem ent72 : MG.Enters Tryz.prog 72 := en func72
theorem g72 (k : Nat) (a0 a1 r : Int) (H : I_LinkKey k a0 a1 = some r) : Gives Tryz.prog 72 [V.one (cI a0), V.one (cI a1)] [] [V.one (cI r)] [] := by
 refine Gives.intro func72 rfl rfl rfl rfl ?_; refine fx fun w0 T S0 ob oh hm => ?_
 have hF := fxe w0 T S0 18 ob oh
 unfold I_LinkKey at H; obtain ⟨K, hK⟩ := leK k; refine sg 1 ?_; refine WpC.seq (sr ?_); refine mv ?_; refine cB 2 ent102 (g102 k  a0) H fun r7 H => ?_; refine go 2 ?_; refine sH H (fun hc H => ?_) (fun hc H => ?_)
 ·refine gn 4 ?_; refine cT ?_; refine sg 1 ?_; cases H; exact WpC.ret rt
 ·refine mv ?_; refine cB 3 ent102 (g102 k  a1) H fun r8 H => ?_; refine gn 2 ?_; refine cd H (fun hc H => ?_) (fun hc H => ?_)
  ·refine sg 1 ?_; cases H; exact WpC.ret rt
  ·refine WpC.skip (sr ?_); refine gn 6 ?_; cases H; exact WpC.ret rt
/-! ### I_asked_ticket -/
def I_asked_ticket.j5 (k : Nat) (v61 : Bool) (v62 : T_asked) (v63 : T_Ticket) (v64 : List Int) : Option (T_Ticket × Bool) := cond v61 (some ((⟨v63.Client, v63.Service, v63.Key, v63.Rest, v64, v63.Via⟩ : T_Ticket), (v63.Service == (IntKind.i64.wrap (10 + v62.realm))))) (some ((⟨v63.Client, v63.Service, v63.Key, v63.Rest, v64, v63.Via⟩ : T_Ticket), false))
def I_asked_ticket.j9 (cl8 : Bool → Int → T_asked → T_Ticket → (List Int) → Option (T_Ticket × Bool)) (k : Nat) (v113 : Bool) (v114 : Int) (v115 : T_asked) (v116 : T_Ticket) (v117 : List Int) : Option (T_Ticket × Bool) := cl8 v113 (IntKind.i64.wrap (v114 + 1)) v115 v116 v117
def I_asked_ticket.l8 : Nat → Bool → Int → T_asked → T_Ticket → (List Int) → Option (T_Ticket × Bool)
 | 0, _, _, _, _, _ => none
 | k8 + 1, v103, v104, v105, v106, v107 => cond (decide (v104 < 3)) (cond (!v103) ((V_Contains_Pair k8 v105.c.Links (⟨v104, v105.realm⟩ : T_Pair)).bind fun r118 => cond r118 ((at? v105.parts 1).bind fun b119 => (I_LinkKey k8 v104 v105.realm).bind fun r120 => (I_ReadTicket k8 b119 r120).bind fun r121 => cond r121.2 (cond (decide ((2 * (r121.1.Path.length + ([v104] : List Int).length) + 192) * 8 ≤ 281474976710656)) (I_asked_ticket.j9 (I_asked_ticket.l8 k8) k8 r121.2 v104 v105 r121.1 (r121.1.Path ++ ([v104] : List Int))) none) (I_asked_ticket.j9 (I_asked_ticket.l8 k8) k8 r121.2 v104 v105 r121.1 r121.1.Path)) (I_asked_ticket.j9 (I_asked_ticket.l8 k8) k8 v103 v104 v105 v106 v107)) (I_asked_ticket.j5 k8 v103 v105 v106 v107)) (I_asked_ticket.j5 k8 v103 v105 v106 v107)
def I_asked_ticket (k : Nat) (a0 : T_asked) : Option (T_Ticket × Bool) := (at? a0.parts 1).bind fun b1 => (I_CentreKey k a0.realm).bind fun r2 => (I_ReadTicket k b1 r2).bind fun r3 => I_asked_ticket.l8 k r3.2 0 a0 r3.1 r3.1.Path
theorem ent248 : MG.Enters Tryz.prog 248 := en func248
theorem g248 (k : Nat) (g0 g1 g2 g3 g4 : Bool) (a0 : T_asked) (r : T_Ticket × Bool) (H : I_asked_ticket k a0 = some r) : Gives Tryz.prog 248 [V.agg (bT_asked g0 g1 g2 g3 g4 a0)] [] [V.agg [cI r.1.Client, cI r.1.Service, cI r.1.Key, cI r.1.Rest.Servers, cI r.1.Rest.Ops, cI r.1.Rest.End, Cell.ow 1 (List.map eI r.1.Path), Cell.ow 1 (List.map eI r.1.Via)], V.one (cL r.2)] [] := by
 refine Gives.intro func248 rfl rfl rfl rfl ?_; refine fx fun w0 T S0 ob oh hm => ?_
 have hF := fxe w0 T S0 63 ob oh
 unfold I_asked_ticket at H; obtain ⟨K, hK⟩ := leK k; refine sr ?_; refine bo 10 ?_; refine alc 11 info235 ?_; refine gn 1 ?_; refine WpC.seq ?_; obtain ⟨b1, hb1, H⟩ := bindS H; obtain ⟨r2, hr2, H⟩ := bindS H; obtain ⟨r3, hr3, H⟩ := bindS H
 apply ldT ⟨[e0 1 _, e0 2 _, ed 4 12 _, ed 5 14 _, ed 7 9 _, ed 8 1 _, ed 9 2 _, ed 10 3 _, ed 11 4 _, ed 12 5 _, ed 13 6 _, ed 14 7 _, ed 15 8 _, ed 16 10 _, ed 17 11 _], [ed 19 8 _, ed 20 8 _], [e0 10 _, e0 11 _, (22, [(13, some _), (12, some _)])], 23, []⟩ [(0, 14222), (1, 14220), (3, 14216), (7, 14208), (0, 14304), (16, 14272), (48, 14208), (127, 14080), (255, 13824), (511, 12288), (511, 8192), (0, 12288), (3071, 8192), (8191, 0)] mixed ?L1 ?_
 case L1 =>
  repeat refine ls ?_
  apply lc 23 12 0 [10] [] [] ?h1_2 ?q1_2 ?_
  case h1_2 =>
   intro b; refine ix underlying34 info9 hb1 ?_; exact L.nil ⟨rfl, rfl, rfl, rfl⟩
  case' q1_2 => skip
  repeat refine ls ?_
  apply lc 23 12 1 [14] [] [] ?h1_6 ?q1_6 ?_
  case h1_6 =>
   intro b; refine c0 23 ent71 (g71 k  a0.realm r2 hr2) ?_; exact L.nil ⟨rfl, rfl, rfl, rfl⟩
  case' q1_6 => skip
  apply lc 23 13 9 [15] [19, 20] [] ?h1_7 ?q1_7 ?_
  case h1_7 =>
   intro b; refine c0 23 ent253 (g253 k  b1 r2 r3 hr3) ?_; exact L.nil ⟨rfl, rfl, rfl, rfl⟩
  case' q1_7 => skip
  repeat refine ls ?_
  apply lc 23 22 1 [4] [] [22] ?h1_11 ?q1_11 ?_
  case h1_11 =>
   intro b; refine alc 23 info235 ?_; exact L.nil ⟨rfl, rfl, rfl, rfl⟩
  case' q1_11 => skip
  refine lb ?_
  repeat refine ls ?_
  exact trivial
  all_goals exact lq
 refine WpC.join (fun σ => ∃ (kj5 : Nat) (v61 : Bool) (v62 : T_asked) (v63 : T_Ticket) (v64 : List Int), kj5 ≤ K ∧ I_asked_ticket.j5 kj5 v61 v62 v63 v64 = some r ∧ σ = mkSt [(1, oP 0 0), (2, oP 1 0), (4, oP 2 0), (5, oL v61)] [(3, ⟨1, List.map eI v64⟩), (4, ⟨1, List.map eI v63.Via⟩)] [(0, (bT_asked g0 g1 g2 g3 g4 v62)), (1, zc2), (2, [cI v63.Client, cI v63.Service, cI v63.Key, cI v63.Rest.Servers, cI v63.Rest.Ops, cI v63.Rest.End, Cell.own 3, Cell.own 4])] 5) ?_ ?_
 ·rintro _ ⟨kj5, v61, v62, v63, v64, hkj5, H, rfl⟩
  unfold I_asked_ticket.j5 at H; refine WpC.seq ?_
  rcases Bool.eq_false_or_eq_true (v61) with hc65 | hc65
  ·replace H := condT hc65 H
   apply ldT ⟨[e0 1 _, e0 2 _, ed 3 12 _, e0 4 _, e0 5 _, ed 53 1 _, ed 54 2 _, (55, [(3, some (oL true))]), ed 56 4 _, ed 57 5 _, ed 58 6 _, ed 59 7 _, ed 60 8 _, ed 61 9 _, ed 62 10 _], [e0 3 _, e0 4 _], [e0 0 _, (1, [(11, some _), (0, some _)]), e0 2 _], 5, []⟩ [(0, 3072), (0, 4092), (2, 4088), (6, 2832), (14, 2816), (6, 3008), (38, 2944), (102, 2816), (254, 2560), (510, 2048), (7, 2048), (2047, 0)] mixed ?L2 ?_
   case L2 =>
    repeat refine ls ?_
    refine lg ?_
    repeat refine ls ?_
    refine lb ?_
    repeat refine ls ?_
    exact trivial
   cases H; exact WpC.ret rt
  ·replace H := condF hc65 H
   apply ldT ⟨[e0 1 _, e0 2 _, ed 3 12 _, e0 4 _, e0 5 _, ed 53 1 _, ed 54 2 _, (55, [(3, some (oL false))]), ed 56 4 _, ed 57 5 _, ed 58 6 _, ed 59 7 _, ed 60 8 _, ed 61 9 _, ed 62 10 _], [e0 3 _, e0 4 _], [e0 0 _, (1, [(11, some _), (0, some _)]), e0 2 _], 5, []⟩ [(0, 3072), (0, 4092), (2, 4088), (6, 2832), (14, 2816), (6, 3008), (38, 2944), (102, 2816), (254, 2560), (510, 2048), (7, 2048), (2047, 0)] mixed ?L3 ?_
   case L3 =>
    repeat refine ls ?_
    refine lg ?_
    repeat refine ls ?_
    refine lb ?_
    repeat refine ls ?_
    exact trivial
   cases H; exact WpC.ret rt
 ·refine sg 1 ?_; refine WpC.block ?_; refine WpC.loopL (P := Tryz.prog) (fun n σ => ∃ (v103 : Bool) (v104 : Int) (v105 : T_asked) (v106 : T_Ticket) (v107 : List Int), n ≤ K ∧ I_asked_ticket.l8 n v103 v104 v105 v106 v107 = some r ∧ σ = mkSt [(1, oP 0 0), (2, oP 1 0), (4, oP 2 0), (5, oL v103), (6, oI v104)] [(3, ⟨1, List.map eI v107⟩), (4, ⟨1, List.map eI v106.Via⟩)] [(0, (bT_asked g0 g1 g2 g3 g4 v105)), (1, zc2), (2, [cI v106.Client, cI v106.Service, cI v106.Key, cI v106.Rest.Servers, cI v106.Rest.Ops, cI v106.Rest.End, Cell.own 3, Cell.own 4])] 5) k ⟨_, ⟨r3.2, 0, a0, r3.1, r3.1.Path, by omega, H, rfl⟩, lm [(0, 10), (1, 11), (2, 22), (3, 19), (4, 20)] hm⟩ ?_; clear H
  rintro k8 _ ⟨v103, v104, v105, v106, v107, hk8, H, rfl⟩
  cases k8 with
  | zero => cases H
  | succ k8 =>
   rw [I_asked_ticket.l8] at H
   refine WpC.seq (sr ?_); refine go 3 ?_; refine sH H (fun hc H => ?_) (fun hc H => ?_)
   ·refine gn 3 ?_; refine cd H (fun hc H => ?_) (fun hc H => ?_)
    ·refine WpC.skip ?_; refine WpC.join (fun σ => ∃ (kj9 : Nat) (v113 : Bool) (v114 : Int) (v115 : T_asked) (v116 : T_Ticket) (v117 : List Int), kj9 ≤ K ∧ I_asked_ticket.j9 (I_asked_ticket.l8 k8) kj9 v113 v114 v115 v116 v117 = some r ∧ σ = mkSt [(1, oP 0 0), (2, oP 1 0), (4, oP 2 0), (5, oL v113), (6, oI v114)] [(3, ⟨1, List.map eI v117⟩), (4, ⟨1, List.map eI v116.Via⟩)] [(0, (bT_asked g0 g1 g2 g3 g4 v115)), (1, zc2), (2, [cI v116.Client, cI v116.Service, cI v116.Key, cI v116.Rest.Servers, cI v116.Rest.Ops, cI v116.Rest.End, Cell.own 3, Cell.own 4])] 5) ?_ ?_
     ·rintro _ ⟨kj9, v113, v114, v115, v116, v117, hkj9, H, rfl⟩
      unfold I_asked_ticket.j9 at H; refine WpC.regionL ?_; refine gn 3 ?_; exact ⟨k8, _, by omega, ⟨v113, (IntKind.i64.wrap (v114 + 1)), v115, v116, v117, by omega, H, rfl⟩, lm [(0, 0), (1, 1), (2, 2), (3, 3), (4, 4)] hm⟩
     ·refine WpC.block (sr ?_); refine go 6 ?_; refine bf built114 ?_; refine cB 5 ent107 (g107 k8 g2 v105.c.Links (⟨v104, v105.realm⟩ : T_Pair)) H fun r118 H => L.nil ?_; refine cd H (fun hc H => ?_) (fun hc H => ?_)
      ·refine WpC.seq ?_; obtain ⟨b119, hb119, H⟩ := bindS H; obtain ⟨r120, hr120, H⟩ := bindS H; obtain ⟨r121, hr121, H⟩ := bindS H
       apply ldT ⟨[e0 1 _, e0 2 _, e0 4 _, (5, [(14, some _), (0, some _)]), e0 6 _, ed 34 10 _, ed 35 1 _, ed 36 2 _, ed 37 3 _, ed 38 4 _, ed 39 5 _, ed 40 6 _, ed 41 7 _, ed 42 8 _, ed 43 9 _, ed 44 11 _, ed 45 12 _], [e0 3 _, e0 4 _, ed 13 9 _, ed 14 9 _], [e0 0 _, e0 1 _, (2, [(13, some _), (0, some _)])], 16, []⟩ [(0, 16142), (1, 16140), (3, 16136), (7, 16128), (0, 16256), (0, 16320), (32, 16256), (112, 16128), (255, 15872), (511, 15360), (1023, 12288), (1023, 8192), (2047, 8192), (8191, 0)] mixed ?L4 ?_
       case L4 =>
        repeat refine ls ?_
        apply lc 16 6 0 [37] [] [] ?h4_2 ?q4_2 ?_
        case h4_2 =>
         intro b; refine ix underlying34 info9 hb119 ?_; exact L.nil ⟨rfl, rfl, rfl, rfl⟩
        case' q4_2 => skip
        repeat refine ls ?_
        apply lc 16 6 1 [42] [] [] ?h4_7 ?q4_7 ?_
        case h4_7 =>
         intro b; refine c0 16 ent72 (g72 k8  v104 v105.realm r120 hr120) ?_; exact L.nil ⟨rfl, rfl, rfl, rfl⟩
        case' q4_7 => skip
        apply lc 16 7 9 [43] [13, 14] [] ?h4_8 ?q4_8 ?_
        case h4_8 =>
         intro b; refine c0 16 ent253 (g253 k8  b119 r120 r121 hr121) ?_; exact L.nil ⟨rfl, rfl, rfl, rfl⟩
        case' q4_8 => skip
        repeat refine ls ?_
        refine lb ?_
        repeat refine ls ?_
        exact trivial
        all_goals exact lq
       refine sg 1 ?_; refine cd H (fun hc H => ?_) (fun hc H => ?_)
       ·refine WpC.regionL ?_; refine go 3 ?_; refine L.buildSlice (e := eI) 16 ([v104] : List Int) underlying24 info3 rfl rfl rfl hF rfl rfl rfl rfl rfl rfl rfl rfl ?_; obtain ⟨h122, H⟩ := condG H; refine L.append (xs := r121.1.Path) (ys := ([v104] : List Int)) (e := eI) 17 underlying24 info3 rfl rfl hF rfl rfl rfl rfl rfl rfl rfl rfl (fun _ => rfl) (fun _ _ h1 h2 => by cases h1; cases h2; rfl) ⟨_, underlying24⟩ (of_decide_eq_true h122) rfl rfl ?_; refine gn 2 ?_; exact ⟨_, ⟨k8, r121.2, v104, v105, r121.1, (r121.1.Path ++ ([v104] : List Int)), by omega, H, rfl⟩, lm [(0, 0), (1, 1), (2, 2), (3, 17), (4, 14)] hm⟩
       ·refine WpC.skip ?_; exact ⟨_, ⟨k8, r121.2, v104, v105, r121.1, r121.1.Path, by omega, H, rfl⟩, lm [(0, 0), (1, 1), (2, 2), (3, 13), (4, 14)] hm⟩
      ·refine WpC.skip ?_; exact ⟨_, ⟨k8, v103, v104, v105, v106, v107, by omega, H, rfl⟩, lm [(0, 0), (1, 1), (2, 2), (3, 3), (4, 4)] hm⟩
    ·refine WpC.exit ?_; exact ⟨_, ⟨k8, v103, v105, v106, v107, by omega, H, rfl⟩, lm [(0, 0), (1, 1), (2, 2), (3, 3), (4, 4)] hm⟩
   ·refine gn 3 ?_; refine cF ?_; refine WpC.exit ?_; exact ⟨_, ⟨k8, v103, v105, v106, v107, by omega, H, rfl⟩, lm [(0, 0), (1, 1), (2, 2), (3, 3), (4, 4)] hm⟩
/-! ### I_ReadAuth -/
def I_ReadAuth (k : Nat) (a0 : List UInt8) (a1 : Int) : Option (T_Auth × Bool) := (I_Open k a0 a1).bind fun r1 => (I_ReadNums k r1.1).bind fun r2 => cond ((r2.1.length : Int) != 4) (some ((⟨0, 0, 0⟩ : T_Auth), false)) ((at? r2.1 1).bind fun b3 => (at? r2.1 2).bind fun b4 => (at? r2.1 3).bind fun b5 => (I_ShowAuth k (⟨b3, b4, b5⟩ : T_Auth) a1).bind fun r7 => cond (r7 != a0) (some ((⟨0, 0, 0⟩ : T_Auth), false)) (some ((⟨b3, b4, b5⟩ : T_Auth), true)))
theorem ent249 : MG.Enters Tryz.prog 249 := en func249
theorem g249 (k : Nat) (a0 : List UInt8) (a1 : Int) (r : T_Auth × Bool) (H : I_ReadAuth k a0 a1 = some r) : Gives Tryz.prog 249 [V.one (cS a0), V.one (cI a1)] [] [V.agg (bT_Auth r.1), V.one (cL r.2)] [] := by
 refine Gives.intro func249 rfl rfl rfl rfl ?_; refine fx fun w0 T S0 ob oh hm => ?_
 have hF := fxe w0 T S0 43 ob oh
 unfold I_ReadAuth at H; obtain ⟨K, hK⟩ := leK k; refine sr ?_; refine alc 2 info56 ?_; refine gn 1 ?_; refine sy 2 ?_; refine cB 3 ent244 (g244 k  a0 a1) H fun r1 H => ?_; refine gn 5 ?_; refine sy 1 ?_; refine cB 5 ent224 (g224 k  r1.1) H fun r2 H => ?_; refine gn 5 ?_; refine WpC.seq (sr ?_); refine mv ?_; refine L.lenR (xs := r2.1) (e := eI) underlying24 hF rfl rfl rfl rfl ?_; refine gn 1 ?_; refine cd H (fun hc H => ?_) (fun hc H => ?_)
 ·refine sr ?_; refine bf built56 ?_; refine gn 2 ?_; cases H; exact WpC.ret rt
 ·refine WpC.skip (WpC.seq ?_); obtain ⟨b3, hb3, H⟩ := bindS H; obtain ⟨b4, hb4, H⟩ := bindS H; obtain ⟨b5, hb5, H⟩ := bindS H
  apply ldT ⟨[e0 0 _, e0 1 _, e0 4 _, e0 8 _, ed 10 11 _, ed 26 1 _, ed 27 2 _, ed 28 3 _, ed 29 4 _, ed 30 5 _, ed 31 6 _, ed 32 7 _, ed 33 8 _, ed 34 9 _, ed 35 10 _], [e0 5 _], [e0 2 _, (7, [(12, some _), (11, some _)])], 8, []⟩ [(0, 2566), (1, 2564), (3, 2560), (0, 2608), (8, 2592), (24, 2560), (0, 2944), (64, 2816), (192, 2560), (511, 2048), (0, 2048), (2047, 0)] mixed ?L1 ?_
  case L1 =>
   repeat refine ls ?_
   apply lc 8 7 0 [27] [] [] ?h1_1 ?q1_1 ?_
   case h1_1 =>
    intro b; refine ix underlying24 info3 hb3 ?_; exact L.nil ⟨rfl, rfl, rfl, rfl⟩
   case' q1_1 => skip
   apply lc 8 7 0 [28] [] [] ?h1_2 ?q1_2 ?_
   case h1_2 =>
    intro b; refine L.loadEp (xs := r2.1) (e := eI) shape3 hF rfl rfl rfl rfl (at?_get hb3).2 rfl rfl ?_; exact L.nil ⟨rfl, rfl, rfl, rfl⟩
   case' q1_2 => skip
   repeat refine ls ?_
   apply lc 8 7 0 [30] [] [] ?h1_4 ?q1_4 ?_
   case h1_4 =>
    intro b; refine ix underlying24 info3 hb4 ?_; exact L.nil ⟨rfl, rfl, rfl, rfl⟩
   case' q1_4 => skip
   apply lc 8 7 0 [31] [] [] ?h1_5 ?q1_5 ?_
   case h1_5 =>
    intro b; refine L.loadEp (xs := r2.1) (e := eI) shape3 hF rfl rfl rfl rfl (at?_get hb4).2 rfl rfl ?_; exact L.nil ⟨rfl, rfl, rfl, rfl⟩
   case' q1_5 => skip
   repeat refine ls ?_
   apply lc 8 7 0 [33] [] [] ?h1_7 ?q1_7 ?_
   case h1_7 =>
    intro b; refine ix underlying24 info3 hb5 ?_; exact L.nil ⟨rfl, rfl, rfl, rfl⟩
   case' q1_7 => skip
   apply lc 8 7 0 [34] [] [] ?h1_8 ?q1_8 ?_
   case h1_8 =>
    intro b; refine L.loadEp (xs := r2.1) (e := eI) shape3 hF rfl rfl rfl rfl (at?_get hb5).2 rfl rfl ?_; exact L.nil ⟨rfl, rfl, rfl, rfl⟩
   case' q1_8 => skip
   apply lc 8 7 0 [35] [] [] ?h1_9 ?q1_9 ?_
   case h1_9 =>
    intro b; refine bf built56 ?_; exact L.nil ⟨rfl, rfl, rfl, rfl⟩
   case' q1_9 => skip
   apply lc 8 7 1 [10] [] [7] ?h1_10 ?q1_10 ?_
   case h1_10 =>
    intro b; refine alc 8 info56 ?_; exact L.nil ⟨rfl, rfl, rfl, rfl⟩
   case' q1_10 => skip
   refine lb ?_; exact trivial
   all_goals exact lq
  refine WpC.seq (sr ?_); refine go 2 ?_; refine cB 8 ent222 (g222 k  (⟨b3, b4, b5⟩ : T_Auth) a1) H fun r7 H => ?_; refine mv ?_; refine L.binS hF rfl rfl rfl rfl rfl (L.nil ?_); refine cd H (fun hc H => ?_) (fun hc H => ?_)
  ·refine sr ?_; refine bf built56 ?_; refine gn 2 ?_; cases H; exact WpC.ret rt
  ·refine WpC.skip (sr ?_); refine gn 3 ?_; cases H; exact WpC.ret rt
/-! ### I_Meet -/
def I_Meet (k : Nat) (a0 a1 : T_Rest) : Option T_Rest := (I_RestOk k a0).bind fun r7 => cond (!r7) (some (⟨0, 0, 0⟩ : T_Rest)) ((I_RestOk k a1).bind fun r8 => cond (!r8) (some (⟨0, 0, 0⟩ : T_Rest)) (some (⟨(Go.bits .and .i64 a0.Servers a1.Servers), (Go.bits .and .i64 a0.Ops a1.Ops), (if a1.End < a0.End then a1.End else a0.End)⟩ : T_Rest)))
theorem ent251 : MG.Enters Tryz.prog 251 := en func251
theorem g251 (k : Nat) (a0 a1 r : T_Rest) (H : I_Meet k a0 a1 = some r) : Gives Tryz.prog 251 [V.agg (bT_Rest a0), V.agg (bT_Rest a1)] [] [V.agg (bT_Rest r)] [] := by
 refine Gives.intro func251 rfl rfl rfl rfl ?_; refine fx fun w0 T S0 ob oh hm => ?_
 have hF := fxe w0 T S0 30 ob oh
 unfold I_Meet at H; obtain ⟨K, hK⟩ := leK k; refine sr ?_; refine bo 6 ?_; refine bo 7 ?_; refine alc 8 info29 (L.nil ?_); refine WpC.seq (sr ?_); refine lp shape29 ?_; refine cB 9 ent56 (g56 k  a0) H fun r7 H => ?_; refine go 2 ?_; refine sH H (fun hc H => ?_) (fun hc H => ?_)
 ·refine gn 4 ?_; refine cT ?_; refine sr ?_; refine bf built29 ?_; refine gn 1 ?_; cases H; exact WpC.ret rt
 ·refine lp shape29 ?_; refine cB 10 ent56 (g56 k  a1) H fun r8 H => ?_; refine gn 2 ?_; refine cd H (fun hc H => ?_) (fun hc H => ?_)
  ·refine sr ?_; refine bf built29 ?_; refine gn 1 ?_; cases H; exact WpC.ret rt
  ·refine WpC.skip (sr ?_); refine go 14 ?_; refine L.minI hF rfl rfl rfl rfl ?_; refine bf built29 ?_; refine gn 1 ?_; cases H; exact WpC.ret rt
/-! ### I_asked_delegate -/
def I_asked_delegate.j2 (k : Nat) (v27 v28 : Int) (v29 : Bool) (v30 : T_asked) (v31 : T_Ticket) (v32 : T_Rest) (v33 : T_Ticket) : Option T_Reply := cond v29 (some (⟨1, ([] : List UInt8), (⟨0, 0, 0, 0, 0, 0, 0, 0, (⟨0, 0, 0⟩ : T_Rest)⟩ : T_Event)⟩ : T_Reply)) (cond (decide (v30.now > v33.Rest.End)) (some (⟨4, ([] : List UInt8), (⟨0, 0, 0, 0, 0, 0, 0, 0, (⟨0, 0, 0⟩ : T_Rest)⟩ : T_Event)⟩ : T_Reply)) ((V_Contains_Pair k v30.c.Proxy (⟨v28, v27⟩ : T_Pair)).bind fun r35 => cond (!r35) (some (⟨6, ([] : List UInt8), (⟨0, 0, 0, 0, 0, 0, 0, 0, (⟨0, 0, 0⟩ : T_Rest)⟩ : T_Event)⟩ : T_Reply)) (cond (decide ((v33.Via.length : Int) ≥ 4)) (some (⟨6, ([] : List UInt8), (⟨0, 0, 0, 0, 0, 0, 0, 0, (⟨0, 0, 0⟩ : T_Rest)⟩ : T_Event)⟩ : T_Reply)) ((I_Meet k v33.Rest v32).bind fun r36 => (I_copyInts k v33.Via).bind fun r37 => cond (decide ((2 * (r37.length + ([v28] : List Int).length) + 192) * 8 ≤ 281474976710656)) ((I_PrincipalKey k (IntKind.i64.wrap (3 + v27))).bind fun r39 => (I_asked_given k v30 (⟨4, 0, v31.Client, v33.Client, 0, 0, v31.Key, v33.Key, (⟨0, 0, 0⟩ : T_Rest)⟩ : T_Event) (⟨v33.Client, v27, v30.fresh, r36, v33.Path, (r37 ++ ([v28] : List Int))⟩ : T_Ticket) r39 v31.Key).bind fun r40 => some r40) none))))
def I_asked_delegate (k : Nat) (a0 : T_asked) (a1 : T_Ticket) (a2 : Int) (a3 : T_Rest) : Option T_Reply := (I_isService k (IntKind.i64.wrap (a1.Client - 3))).bind fun r10 => cond (!r10) (some (⟨6, ([] : List UInt8), (⟨0, 0, 0, 0, 0, 0, 0, 0, (⟨0, 0, 0⟩ : T_Rest)⟩ : T_Event)⟩ : T_Reply)) ((at? a0.c.ServiceRealm (IntKind.i64.wrap (a1.Client - 3))).bind fun b12 => cond (b12 != a0.realm) (some (⟨6, ([] : List UInt8), (⟨0, 0, 0, 0, 0, 0, 0, 0, (⟨0, 0, 0⟩ : T_Rest)⟩ : T_Event)⟩ : T_Reply)) ((at? a0.c.ServiceRealm a2).bind fun b14 => cond (b14 != a0.realm) (some (⟨6, ([] : List UInt8), (⟨0, 0, 0, 0, 0, 0, 0, 0, (⟨0, 0, 0⟩ : T_Rest)⟩ : T_Event)⟩ : T_Reply)) ((at? a0.parts 4).bind fun b15 => (I_PrincipalKey k a1.Client).bind fun r16 => (I_ReadTicket k b15 r16).bind fun r17 => cond (!r17.2) (I_asked_delegate.j2 k a2 (IntKind.i64.wrap (a1.Client - 3)) true a0 a1 a3 r17.1) (I_asked_delegate.j2 k a2 (IntKind.i64.wrap (a1.Client - 3)) (r17.1.Service != (IntKind.i64.wrap (a1.Client - 3))) a0 a1 a3 r17.1))))
theorem ent250 : MG.Enters Tryz.prog 250 := en func250
theorem g250 (k : Nat) (g0 g1 g2 g3 g4 g5 g6 : Bool) (a0 : T_asked) (a1 : T_Ticket) (a2 : Int) (a3 : T_Rest) (r : T_Reply) (H : I_asked_delegate k a0 a1 a2 a3 = some r) : Gives Tryz.prog 250 [V.agg (bT_asked g0 g1 g2 g3 g4 a0), V.agg (bT_Ticket g5 g6 a1), V.one (cI a2), V.agg (bT_Rest a3)] [] [V.agg (bT_Reply r)] [] := by
 refine Gives.intro func250 rfl rfl rfl rfl ?_; refine fx fun w0 T S0 ob oh hm => ?_
 have hF := fxe w0 T S0 124 ob oh
 unfold I_asked_delegate at H; obtain ⟨K, hK⟩ := leK k; refine sr ?_; refine bo 22 ?_; refine bo 23 ?_; refine bo 24 ?_; refine alc 25 info199 (L.nil ?_); refine sg 4 ?_; refine WpC.seq (WpC.seq ?_); obtain ⟨r10, hr10, H⟩ := bindS H
 rcases Bool.eq_false_or_eq_true ((!r10)) with hc11 | hc11
 ·replace H := condT hc11 H
  apply ldT ⟨[e0 2 _, e0 4 _, e0 5 _, e0 7 _, e0 8 _, e0 9 _, ed 17 1 _, ed 18 2 _, ed 19 3 _, (20, [(4, some (oL true))]), ed 21 5 _, ed 22 6 _, ed 23 7 _, ed 24 8 _, ed 25 9 _, ed 26 10 _, ed 27 11 _, ed 28 12 _, ed 29 13 _, ed 30 14 _, ed 31 15 _, ed 32 16 _, ed 33 17 _, ed 34 18 _, ed 35 19 _, ed 36 20 _, ed 37 21 _, ed 38 22 _, ed 39 23 _, ed 40 24 _, ed 41 25 _], [], [e0 22 _, e0 23 _, e0 24 _, e0 25 _], 27, []⟩ [(0, 33554430), (1, 33554428), (3, 33554424), (7, 33554416), (15, 33551200), (31, 33551168), (63, 33551104), (15, 33551104), (255, 33550848), (511, 33550336), (15, 33552384), (1039, 33550336), (4095, 33546240), (8191, 33538048), (16383, 33521664), (32767, 26935296), (65535, 26869760), (131071, 26738688), (32767, 26738688), (524287, 26214400), (1048575, 25165824), (32767, 29360128), (2129919, 25165824), (8388607, 16777216), (16777215, 0)] mixed ?L1 ?_
  case L1 =>
   repeat refine ls ?_
   apply lc 27 26 1 [18] [] [] ?h1_1 ?q1_1 ?_
   case h1_1 =>
    intro b; refine c0 27 ent55 (g55 k  (IntKind.i64.wrap (a1.Client - 3)) r10 hr10) ?_; exact L.nil ⟨rfl, rfl, rfl, rfl⟩
   case' q1_1 => skip
   repeat refine ls ?_
   refine lg ?_
   repeat refine ls ?_
   exact trivial
   all_goals exact lq
  refine cT ?_; refine sr ?_; refine bf built199 ?_; refine gn 1 ?_; cases H; exact WpC.ret rt
 ·replace H := condF hc11 H
  obtain ⟨b12, hb12, H⟩ := bindS H
  rcases Bool.eq_false_or_eq_true ((b12 != a0.realm)) with hc13 | hc13
  ·replace H := condT hc13 H
   apply ldT ⟨[e0 2 _, e0 4 _, e0 5 _, e0 7 _, e0 8 _, e0 9 _, ed 17 1 _, ed 18 2 _, ed 19 3 _, (20, [(4, some (oL false))]), ed 21 5 _, ed 22 6 _, ed 23 7 _, ed 24 8 _, ed 25 9 _, ed 26 10 _, ed 27 11 _, ed 28 12 _, ed 29 13 _, ed 30 14 _, (31, [(15, some (oL true))]), ed 32 16 _, ed 33 17 _, ed 34 18 _, ed 35 19 _, ed 36 20 _, ed 37 21 _, ed 38 22 _, ed 39 23 _, ed 40 24 _, ed 41 25 _], [], [e0 22 _, e0 23 _, e0 24 _, e0 25 _], 27, []⟩ [(0, 33554430), (1, 33554428), (3, 33554424), (7, 33554416), (15, 33551200), (31, 33551168), (63, 33551104), (15, 33551104), (255, 33550848), (511, 33550336), (15, 33552384), (1039, 33550336), (4095, 33546240), (8191, 33538048), (16383, 33521664), (32767, 26935296), (65535, 26869760), (131071, 26738688), (32767, 26738688), (524287, 26214400), (1048575, 25165824), (32767, 29360128), (2129919, 25165824), (8388607, 16777216), (16777215, 0)] mixed ?L2 ?_
   case L2 =>
    repeat refine ls ?_
    apply lc 27 26 1 [18] [] [] ?h2_1 ?q2_1 ?_
    case h2_1 =>
     intro b; refine c0 27 ent55 (g55 k  (IntKind.i64.wrap (a1.Client - 3)) r10 hr10) ?_; exact L.nil ⟨rfl, rfl, rfl, rfl⟩
    case' q2_1 => skip
    repeat refine ls ?_
    refine lg ?_
    repeat refine ls ?_
    apply lc 27 27 0 [25] [] [] ?h2_8 ?q2_8 ?_
    case h2_8 =>
     intro b; refine ix underlying24 info3 hb12 ?_; exact L.nil ⟨rfl, rfl, rfl, rfl⟩
    case' q2_8 => skip
    repeat refine ls ?_
    refine lg ?_
    repeat refine ls ?_
    exact trivial
    all_goals exact lq
   refine cT ?_; refine sr ?_; refine bf built199 ?_; refine gn 1 ?_; cases H; exact WpC.ret rt
  ·replace H := condF hc13 H
   obtain ⟨b14, hb14, H⟩ := bindS H
   apply ldT ⟨[e0 2 _, e0 4 _, e0 5 _, e0 7 _, e0 8 _, e0 9 _, ed 17 1 _, ed 18 2 _, ed 19 3 _, (20, [(4, some (oL false))]), ed 21 5 _, ed 22 6 _, ed 23 7 _, ed 24 8 _, ed 25 9 _, ed 26 10 _, ed 27 11 _, ed 28 12 _, ed 29 13 _, ed 30 14 _, (31, [(15, some (oL false))]), ed 32 16 _, ed 33 17 _, ed 34 18 _, ed 35 19 _, ed 36 20 _, ed 37 21 _, ed 38 22 _, ed 39 23 _, ed 40 24 _, ed 41 25 _], [], [e0 22 _, e0 23 _, e0 24 _, e0 25 _], 27, []⟩ [(0, 33554430), (1, 33554428), (3, 33554424), (7, 33554416), (15, 33551200), (31, 33551168), (63, 33551104), (15, 33551104), (255, 33550848), (511, 33550336), (15, 33552384), (1039, 33550336), (4095, 33546240), (8191, 33538048), (16383, 33521664), (32767, 26935296), (65535, 26869760), (131071, 26738688), (32767, 26738688), (524287, 26214400), (1048575, 25165824), (32767, 29360128), (2129919, 25165824), (8388607, 16777216), (16777215, 0)] mixed ?L3 ?_
   case L3 =>
    repeat refine ls ?_
    apply lc 27 26 1 [18] [] [] ?h3_1 ?q3_1 ?_
    case h3_1 =>
     intro b; refine c0 27 ent55 (g55 k  (IntKind.i64.wrap (a1.Client - 3)) r10 hr10) ?_; exact L.nil ⟨rfl, rfl, rfl, rfl⟩
    case' q3_1 => skip
    repeat refine ls ?_
    refine lg ?_
    repeat refine ls ?_
    apply lc 27 27 0 [25] [] [] ?h3_8 ?q3_8 ?_
    case h3_8 =>
     intro b; refine ix underlying24 info3 hb12 ?_; exact L.nil ⟨rfl, rfl, rfl, rfl⟩
    case' q3_8 => skip
    repeat refine ls ?_
    refine lg ?_
    repeat refine ls ?_
    apply lc 27 27 0 [36] [] [] ?h3_19 ?q3_19 ?_
    case h3_19 =>
     intro b; refine ix underlying24 info3 hb14 ?_; exact L.nil ⟨rfl, rfl, rfl, rfl⟩
    case' q3_19 => skip
    repeat refine ls ?_
    exact trivial
    all_goals exact lq
   refine cd H (fun hc H => ?_) (fun hc H => ?_)
   ·refine sr ?_; refine bf built199 ?_; refine gn 1 ?_; cases H; exact WpC.ret rt
   ·refine WpC.skip (WpC.seq ?_); obtain ⟨b15, hb15, H⟩ := bindS H; obtain ⟨r16, hr16, H⟩ := bindS H; obtain ⟨r17, hr17, H⟩ := bindS H
    apply ldT ⟨[e0 2 _, e0 4 _, e0 5 _, e0 7 _, e0 8 _, e0 9 _, ed 10 12 _, ed 11 14 _, ed 43 9 _, ed 44 1 _, ed 45 2 _, ed 46 3 _, ed 47 4 _, ed 48 5 _, ed 49 6 _, ed 50 7 _, ed 51 8 _, ed 52 10 _, ed 53 11 _], [ed 34 8 _, ed 35 8 _], [e0 22 _, e0 23 _, e0 24 _, e0 25 _, (37, [(13, some _), (12, some _)])], 38, []⟩ [(0, 14222), (1, 14220), (3, 14216), (7, 14208), (0, 14304), (16, 14272), (48, 14208), (127, 14080), (255, 13824), (511, 12288), (511, 8192), (0, 12288), (3071, 8192), (8191, 0)] mixed ?L4 ?_
    case L4 =>
     repeat refine ls ?_
     apply lc 38 27 0 [46] [] [] ?h4_2 ?q4_2 ?_
     case h4_2 =>
      intro b; refine ix underlying34 info9 hb15 ?_; exact L.nil ⟨rfl, rfl, rfl, rfl⟩
     case' q4_2 => skip
     repeat refine ls ?_
     apply lc 38 27 1 [50] [] [] ?h4_6 ?q4_6 ?_
     case h4_6 =>
      intro b; refine c0 38 ent17 (g17 k  a1.Client r16 hr16) ?_; exact L.nil ⟨rfl, rfl, rfl, rfl⟩
     case' q4_6 => skip
     apply lc 38 28 9 [51] [34, 35] [] ?h4_7 ?q4_7 ?_
     case h4_7 =>
      intro b; refine c0 38 ent253 (g253 k  b15 r16 r17 hr17) ?_; exact L.nil ⟨rfl, rfl, rfl, rfl⟩
     case' q4_7 => skip
     repeat refine ls ?_
     apply lc 38 37 1 [10] [] [37] ?h4_11 ?q4_11 ?_
     case h4_11 =>
      intro b; refine alc 38 info235 ?_; exact L.nil ⟨rfl, rfl, rfl, rfl⟩
     case' q4_11 => skip
     refine lb ?_
     repeat refine ls ?_
     exact trivial
     all_goals exact lq
    refine WpC.seq (WpC.block ?_); refine WpC.join (fun σ => ∃ (kj2 : Nat) (v27 v28 : Int) (v29 : Bool) (v30 : T_asked) (v31 : T_Ticket) (v32 : T_Rest) (v33 : T_Ticket), kj2 ≤ K ∧ I_asked_delegate.j2 kj2 v27 v28 v29 v30 v31 v32 v33 = some r ∧ σ = mkSt [(2, oI v27), (4, oP 0 0), (5, oP 1 0), (7, oP 2 0), (8, oP 3 0), (9, oI v28), (10, oP 4 0), (54, oL v29)] [(5, ⟨1, List.map eI v33.Path⟩), (6, ⟨1, List.map eI v33.Via⟩)] [(0, (bT_asked g0 g1 g2 g3 g4 v30)), (1, (bT_Ticket g5 g6 v31)), (2, (bT_Rest v32)), (3, zc0), (4, [cI v33.Client, cI v33.Service, cI v33.Key, cI v33.Rest.Servers, cI v33.Rest.Ops, cI v33.Rest.End, Cell.own 5, Cell.own 6])] 7) ?_ ?_
    ·rintro _ ⟨kj2, v27, v28, v29, v30, v31, v32, v33, hkj2, H, rfl⟩
     unfold I_asked_delegate.j2 at H; refine cd H (fun hc H => ?_) (fun hc H => ?_)
     ·refine sr ?_; refine bf built199 ?_; refine gn 1 ?_; cases H; exact WpC.ret rt
     ·refine sg 7 ?_; refine cd H (fun hc H => ?_) (fun hc H => ?_)
      ·refine sr ?_; refine bf built199 ?_; refine gn 1 ?_; cases H; exact WpC.ret rt
      ·refine sy 5 ?_; refine bf built114 ?_; refine cB 7 ent107 (g107 kj2 g3 v30.c.Proxy (⟨v28, v27⟩ : T_Pair)) H fun r35 H => ?_; refine go 2 ?_; refine sH H (fun hc H => ?_) (fun hc H => ?_)
       ·refine gn 6 ?_; refine cT ?_; refine sr ?_; refine bf built199 ?_; refine gn 1 ?_; cases H; exact WpC.ret rt
       ·refine go 2 ?_; refine L.lenR (xs := v33.Via) (e := eI) underlying24 hF rfl rfl rfl rfl ?_; refine gn 3 ?_; refine cd H (fun hc H => ?_) (fun hc H => ?_)
        ·refine sr ?_; refine bf built199 ?_; refine gn 1 ?_; cases H; exact WpC.ret rt
        ·refine WpC.skip (WpC.seq ?_); obtain ⟨r36, hr36, H⟩ := bindS H; obtain ⟨r37, hr37, H⟩ := bindS H; obtain ⟨h38, H⟩ := condG H
         apply ldT ⟨[e0 2 _, e0 4 _, e0 5 _, e0 7 _, e0 8 _, e0 9 _, e0 10 _, ed 12 19 _, ed 88 1 _, ed 89 2 _, ed 90 3 _, ed 91 4 _, ed 92 5 _, ed 93 6 _, ed 94 7 _, ed 95 8 _, ed 96 9 _, ed 97 10 _, ed 98 11 _, ed 99 12 _, ed 100 13 _, ed 101 14 _, ed 102 15 _, ed 103 16 _, ed 104 17 _, ed 105 18 _], [e0 5 _, e0 6 _, (11, [(17, none), (14, some _)]), ed 12 16 _, ed 13 17 _], [e0 0 _, e0 1 _, e0 2 _, e0 3 _, e0 4 _, (14, [(20, some _), (19, some _)])], 15, []⟩ [(0, 655362), (1, 655360), (0, 655360), (0, 655376), (8, 655360), (0, 729408), (32, 729344), (0, 729344), (224, 729088), (0, 656384), (512, 655360), (0, 733184), (2048, 729088), (6624, 720896), (0, 753664), (16384, 720896), (63968, 655360), (131071, 524288), (0, 524288), (524287, 0)] mixed ?L5 ?_
         case L5 =>
          repeat refine ls ?_
          apply lc 15 8 3 [96] [] [] ?h5_8 ?q5_8 ?_
          case h5_8 =>
           intro b; refine c0 15 ent251 (g251 kj2  v33.Rest v32 r36 hr36) ?_; exact L.nil ⟨rfl, rfl, rfl, rfl⟩
          case' q5_8 => skip
          repeat refine ls ?_
          apply lc 15 11 1 [101] [11] [] ?h5_13 ?q5_13 ?_
          case h5_13 =>
           intro b; refine ca [false] [6] [] 15 ent98 (g98 kj2 false v33.Via r37 hr37) ?_; exact L.nil ⟨rfl, rfl, rfl, rfl⟩
          case' q5_13 => skip
          repeat refine ls ?_
          apply lc 15 12 1 [103] [12] [] ?h5_15 ?q5_15 ?_
          case h5_15 =>
           intro b; refine L.buildSlice (e := eI) 15 ([v28] : List Int) underlying24 info3 rfl rfl rfl hF rfl rfl rfl rfl rfl rfl rfl rfl ?_; exact L.nil ⟨rfl, rfl, rfl, rfl⟩
          case' q5_15 => skip
          apply lc 15 13 1 [104] [13] [] ?h5_16 ?q5_16 ?_
          case h5_16 =>
           intro b; refine L.append (xs := r37) (ys := ([v28] : List Int)) (e := eI) 15 underlying24 info3 rfl rfl hF rfl rfl rfl rfl rfl rfl rfl rfl (fun _ => rfl) (fun _ _ h1 h2 => by cases h1; cases h2; rfl) ⟨_, underlying24⟩ (of_decide_eq_true h38) rfl rfl ?_; exact L.nil ⟨rfl, rfl, rfl, rfl⟩
          case' q5_16 => skip
          apply lc 15 14 0 [105] [] [] ?h5_17 ?q5_17 ?_
          case h5_17 =>
           intro b; refine bf built235 ?_; exact L.nil ⟨rfl, rfl, rfl, rfl⟩
          case' q5_17 => skip
          apply lc 15 14 1 [12] [] [14] ?h5_18 ?q5_18 ?_
          case h5_18 =>
           intro b; refine alc 15 info235 ?_; exact L.nil ⟨rfl, rfl, rfl, rfl⟩
          case' q5_18 => skip
          refine lb ?_; exact trivial
          all_goals exact lq
         refine sy 8 ?_; refine bf built47 ?_; refine alc 15 info47 ?_; refine gn 1 ?_; refine WpC.seq ?_; obtain ⟨r39, hr39, H⟩ := bindS H; obtain ⟨r40, hr40, H⟩ := bindS H
         apply ldT ⟨[e0 2 _, e0 4 _, e0 5 _, e0 8 _, e0 12 _, e0 13 _, ed 115 1 _, ed 116 2 _, ed 117 3 _, ed 118 4 _, ed 119 5 _, ed 120 6 _, ed 121 7 _, ed 122 8 _, ed 123 9 _], [e0 5 _, e0 13 _], [e0 0 _, e0 1 _, (3, [(10, some _), (0, some _)]), e0 14 _, e0 15 _], 30, []⟩ [(0, 768), (0, 768), (0, 768), (0, 816), (8, 800), (24, 768), (0, 896), (64, 768), (255, 512), (511, 0)] mixed ?L6 ?_
         case L6 =>
          repeat refine ls ?_
          apply lc 30 16 1 [120] [] [] ?h6_5 ?q6_5 ?_
          case h6_5 =>
           intro b; refine c0 30 ent17 (g17 kj2  (IntKind.i64.wrap (3 + v27)) r39 hr39) ?_; exact L.nil ⟨rfl, rfl, rfl, rfl⟩
          case' q6_5 => skip
          repeat refine ls ?_
          apply lc 30 17 13 [123] [] [] ?h6_8 ?q6_8 ?_
          case h6_8 =>
           intro b; refine ca [false, false, false, false, false] [5, 13] [] 30 ent246 (g246 kj2 g0 g1 g2 g3 g4 false false v30 (⟨4, 0, v31.Client, v33.Client, 0, 0, v31.Key, v33.Key, (⟨0, 0, 0⟩ : T_Rest)⟩ : T_Event) (⟨v33.Client, v27, v30.fresh, r36, v33.Path, (r37 ++ ([v28] : List Int))⟩ : T_Ticket) r39 v31.Key r40 hr40) ?_; exact L.nil ⟨rfl, rfl, rfl, rfl⟩
          case' q6_8 => skip
          refine lb ?_; exact trivial
          all_goals exact lq
         cases H; exact WpC.ret rt
    ·refine WpC.regionL ?_; refine go 3 ?_; refine sH H (fun hc H => ?_) (fun hc H => ?_)
     ·refine gn 6 ?_; exact ⟨_, ⟨k, a2, (IntKind.i64.wrap (a1.Client - 3)), true, a0, a1, a3, r17.1, by omega, H, rfl⟩, lm [(0, 22), (1, 23), (2, 24), (3, 25), (4, 37), (5, 34), (6, 35)] hm⟩
     ·refine gn 6 ?_; exact ⟨_, ⟨k, a2, (IntKind.i64.wrap (a1.Client - 3)), (r17.1.Service != (IntKind.i64.wrap (a1.Client - 3))), a0, a1, a3, r17.1, by omega, H, rfl⟩, lm [(0, 22), (1, 23), (2, 24), (3, 25), (4, 37), (5, 34), (6, 35)] hm⟩
/-! ### I_far -/
def I_far.j19 (cl17 : Int → Int → Int → Int → T_Config → Int → Int → Option Int) (k : Nat) (v185 v186 v187 v188 : Int) (v189 : T_Config) (v190 v191 : Int) : Option Int := cl17 v185 v186 v187 v188 v189 v190 (IntKind.i64.wrap (v191 + 1))
def I_far.j20 (cREC : T_Config → Int → Int → Int → Option Int) (cl17 : Int → Int → Int → Int → T_Config → Int → Int → Option Int) (k : Nat) (v193 v194 v195 v196 : Int) (v197 : T_Config) (v198 v199 : Int) (v200 : Bool) (v201 : T_Pair) : Option Int := cond v200 ((cREC v197 v201.B v194 (IntKind.i64.wrap (v195 - 1))).bind fun r202 => I_far.j19 cl17 k v193 v194 v195 (if (IntKind.i64.wrap (1 + r202)) < v196 then (IntKind.i64.wrap (1 + r202)) else v196) v197 v198 v199) (I_far.j19 cl17 k v193 v194 v195 v196 v197 v198 v199)
def I_far.l17 (cREC : T_Config → Int → Int → Int → Option Int) : Nat → Int → Int → Int → Int → T_Config → Int → Int → Option Int
 | 0, _, _, _, _, _, _, _ => none
 | k17 + 1, v167, v168, v169, v170, v171, v172, v173 => cond (decide (v173 < v172)) ((at? v171.Links v173).bind fun b192 => cond (b192.A == v167) (I_far.j20 cREC (I_far.l17 cREC k17) k17 v167 v168 v169 v170 v171 v172 v173 (decide (v169 > 0)) b192) (I_far.j20 cREC (I_far.l17 cREC k17) k17 v167 v168 v169 v170 v171 v172 v173 false b192)) (some v170)
def I_far : Nat → T_Config → Int → Int → Int → Option Int
 | 0, _, _, _, _ => none
 | k + 1, a0, a1, a2, a3 => cond (a1 == a2) (some 0) (I_far.l17 (I_far k) k a1 a2 a3 3 a0 (a0.Links.length : Int) 0)
theorem ent106 : MG.Enters Tryz.prog 106 := en func106
theorem g106 : ∀ (k : Nat) (g0 g1 g2 g3 : Bool) (a0 : T_Config) (a1 a2 a3 r : Int) (H : I_far k a0 a1 a2 a3 = some r), Gives Tryz.prog 106 [V.agg (bT_Config g0 g1 g2 g3 a0), V.one (cI a1), V.one (cI a2), V.one (cI a3)] [] [V.one (cI r)] [] := by
 intro k
 induction k with
 | zero => intros; rename_i H; cases H
 | succ k ih =>
  intro g0 g1 g2 g3 a0 a1 a2 a3 r H; refine Gives.intro func106 rfl rfl rfl rfl ?_; refine fx fun w0 T S0 ob oh hm => ?_
  have hF := fxe w0 T S0 42 ob oh
  rw [I_far] at H
  obtain ⟨K, hK⟩ := leK k; refine sr ?_; refine bo 8 ?_; refine gn 1 ?_; refine WpC.seq (sr ?_); refine gn 3 ?_; refine cd H (fun hc H => ?_) (fun hc H => ?_)
  ·refine sg 1 ?_; cases H; exact WpC.ret rt
  ·refine WpC.skip (sr ?_); refine gn 1 ?_; refine WpC.seq (sr ?_); refine go 2 ?_; refine L.lenR (xs := a0.Links) (e := eT_Pair) underlying25 hF rfl rfl rfl rfl ?_; refine gn 1 ?_; refine WpC.block ?_; refine WpC.loopL (P := Tryz.prog) (fun n σ => ∃ (v167 v168 v169 v170 : Int) (v171 : T_Config) (v172 v173 : Int), n ≤ K ∧ I_far.l17 (I_far k) n v167 v168 v169 v170 v171 v172 v173 = some r ∧ σ = mkSt [(1, oI v167), (2, oI v168), (3, oI v169), (4, oP 0 0), (9, oI v170), (16, MG.one (Cell.sl g2 (List.map eT_Pair v171.Links))), (17, oI v172), (18, oI v173)] [] [(0, (bT_Config g0 g1 g2 g3 v171))] 1) k ⟨_, ⟨a1, a2, a3, 3, a0, (a0.Links.length : Int), 0, by omega, H, rfl⟩, lm [(0, 8)] hm⟩ ?_; clear H
   rintro k17 _ ⟨v167, v168, v169, v170, v171, v172, v173, hk17, H, rfl⟩
   cases k17 with
   | zero => cases H
   | succ k17 =>
    rw [I_far.l17] at H
    refine sg 1 ?_; refine WpC.seq ?_; refine cd H (fun hc H => ?_) (fun hc H => ?_)
    ·refine WpC.skip ?_; refine WpC.join (fun σ => ∃ (kj19 : Nat) (v185 v186 v187 v188 : Int) (v189 : T_Config) (v190 v191 : Int), kj19 ≤ K ∧ I_far.j19 (I_far.l17 (I_far k) k17) kj19 v185 v186 v187 v188 v189 v190 v191 = some r ∧ σ = mkSt [(1, oI v185), (2, oI v186), (3, oI v187), (4, oP 0 0), (9, oI v188), (16, MG.one (Cell.sl g2 (List.map eT_Pair v189.Links))), (17, oI v190), (18, oI v191)] [] [(0, (bT_Config g0 g1 g2 g3 v189))] 1) ?_ ?_
     ·rintro _ ⟨kj19, v185, v186, v187, v188, v189, v190, v191, hkj19, H, rfl⟩
      unfold I_far.j19 at H; refine WpC.regionL ?_; refine gn 2 ?_; exact ⟨k17, _, by omega, ⟨v185, v186, v187, v188, v189, v190, (IntKind.i64.wrap (v191 + 1)), by omega, H, rfl⟩, lm [(0, 0)] hm⟩
     ·refine WpC.block (sr ?_); obtain ⟨b192, hb192, H⟩ := bindS H; refine ix underlying25 info114 hb192 ?_; refine le shape114 ?_; refine alc 1 info114 ?_; refine gn 1 ?_; refine WpC.join (fun σ => ∃ (kj20 : Nat) (v193 v194 v195 v196 : Int) (v197 : T_Config) (v198 v199 : Int) (v200 : Bool) (v201 : T_Pair), kj20 ≤ K ∧ I_far.j20 (I_far k) (I_far.l17 (I_far k) k17) kj20 v193 v194 v195 v196 v197 v198 v199 v200 v201 = some r ∧ σ = mkSt [(1, oI v193), (2, oI v194), (3, oI v195), (4, oP 0 0), (9, oI v196), (11, oP 1 0), (16, MG.one (Cell.sl g2 (List.map eT_Pair v197.Links))), (17, oI v198), (18, oI v199), (29, oL v200)] [] [(0, (bT_Config g0 g1 g2 g3 v197)), (1, [cI v201.A, cI v201.B])] 2) ?_ ?_
      ·rintro _ ⟨kj20, v193, v194, v195, v196, v197, v198, v199, v200, v201, hkj20, H, rfl⟩
       unfold I_far.j20 at H; refine cd H (fun hc H => ?_) (fun hc H => ?_)
       ·refine WpC.regionL ?_; refine go 7 ?_; refine cB 2 ent106 (ih g0 g1 g2 g3 v197 v201.B v194 (IntKind.i64.wrap (v195 - 1))) H fun r202 H => ?_; refine bi ?_; refine L.minI hF rfl rfl rfl rfl ?_; refine gn 1 ?_; exact ⟨_, ⟨kj20, v193, v194, v195, (if (IntKind.i64.wrap (1 + r202)) < v196 then (IntKind.i64.wrap (1 + r202)) else v196), v197, v198, v199, by omega, H, rfl⟩, lm [(0, 0)] hm⟩
       ·refine WpC.skip ?_; exact ⟨_, ⟨kj20, v193, v194, v195, v196, v197, v198, v199, by omega, H, rfl⟩, lm [(0, 0)] hm⟩
      ·refine WpC.regionL ?_; refine go 5 ?_; refine sH H (fun hc H => ?_) (fun hc H => ?_)
       ·refine gn 3 ?_; exact ⟨_, ⟨k17, v167, v168, v169, v170, v171, v172, v173, (decide (v169 > 0)), b192, by omega, H, rfl⟩, lm [(0, 0), (1, 1)] hm⟩
       ·refine gn 3 ?_; exact ⟨_, ⟨k17, v167, v168, v169, v170, v171, v172, v173, false, b192, by omega, H, rfl⟩, lm [(0, 0), (1, 1)] hm⟩
    ·refine WpC.exit (sr ?_); refine gn 2 ?_; cases H; exact WpC.ret rt
/-! ### I_NextHop -/
def I_NextHop.j19 (cl17 : Int → Int → Int → Int → Int → T_Config → Option Int) (k : Nat) (v180 v181 v182 v183 v184 : Int) (v185 : T_Config) : Option Int := cl17 v180 v181 v182 v183 (IntKind.i64.wrap (v184 + 1)) v185
def I_NextHop.j20 (cl17 : Int → Int → Int → Int → Int → T_Config → Option Int) (k : Nat) (v188 v189 v190 v191 v192 v193 : Int) (v194 : Bool) (v195 : T_Config) : Option Int := cond v194 (I_NextHop.j19 cl17 k v188 v189 v192 v193 v192 v195) (I_NextHop.j19 cl17 k v188 v189 v190 v191 v192 v195)
def I_NextHop.l17 : Nat → Int → Int → Int → Int → Int → T_Config → Option Int
 | 0, _, _, _, _, _, _ => none
 | k17 + 1, v163, v164, v165, v166, v167, v168 => cond (decide (v167 < 3)) ((I_far k17 v168 v167 v164 3).bind fun r186 => (V_Contains_Pair k17 v168.Links (⟨v163, v167⟩ : T_Pair)).bind fun r196 => cond r196 (I_NextHop.j20 (I_NextHop.l17 k17) k17 v163 v164 v165 v166 v167 r186 (decide (r186 < v166)) v168) (I_NextHop.j20 (I_NextHop.l17 k17) k17 v163 v164 v165 v166 v167 r186 false v168)) (some v165)
def I_NextHop (k : Nat) (a0 : T_Config) (a1 a2 : Int) : Option Int := (I_ConfigOk k a0).bind fun r10 => cond (!r10) (some (-1)) ((I_isRealm k a1).bind fun r11 => cond (!r11) (some (-1)) ((I_isRealm k a2).bind fun r12 => cond (!r12) (some (-1)) (cond (a1 == a2) (some (-1)) (I_NextHop.l17 k a1 a2 (-1) 3 0 a0))))
theorem ent58 : MG.Enters Tryz.prog 58 := en func58
theorem g58 (k : Nat) (g0 g1 g2 g3 : Bool) (a0 : T_Config) (a1 a2 r : Int) (H : I_NextHop k a0 a1 a2 = some r) : Gives Tryz.prog 58 [V.agg (bT_Config g0 g1 g2 g3 a0), V.one (cI a1), V.one (cI a2)] [] [V.one (cI r)] [] := by
 refine Gives.intro func58 rfl rfl rfl rfl ?_; refine fx fun w0 T S0 ob oh hm => ?_
 have hF := fxe w0 T S0 51 ob oh
 unfold I_NextHop at H; obtain ⟨K, hK⟩ := leK k; refine sr ?_; refine bo 7 ?_; refine gn 1 ?_; refine WpC.seq (sr ?_); refine lp shape27 ?_; refine cB 8 ent54 (g54 k g0 g1 g2 g3 a0) H fun r10 H => ?_; refine go 2 ?_; refine sH H (fun hc H => ?_) (fun hc H => ?_)
 ·refine gn 14 ?_; refine cT ?_; refine sg 1 ?_; cases H; exact WpC.ret rt
 ·refine mv ?_; refine cB 9 ent102 (g102 k  a1) H fun r11 H => ?_; refine go 3 ?_; refine sH H (fun hc H => ?_) (fun hc H => ?_)
  ·refine gn 9 ?_; refine cT ?_; refine sg 1 ?_; cases H; exact WpC.ret rt
  ·refine mv ?_; refine cB 10 ent102 (g102 k  a2) H fun r12 H => ?_; refine go 3 ?_; refine sH H (fun hc H => ?_) (fun hc H => ?_)
   ·refine gn 4 ?_; refine cT ?_; refine sg 1 ?_; cases H; exact WpC.ret rt
   ·refine gn 4 ?_; refine cd H (fun hc H => ?_) (fun hc H => ?_)
    ·refine sg 1 ?_; cases H; exact WpC.ret rt
    ·refine WpC.skip (sr ?_); refine gn 2 ?_; refine WpC.seq (sr ?_); refine gn 1 ?_; refine WpC.block ?_; refine WpC.loopL (P := Tryz.prog) (fun n σ => ∃ (v163 v164 v165 v166 v167 : Int) (v168 : T_Config), n ≤ K ∧ I_NextHop.l17 n v163 v164 v165 v166 v167 v168 = some r ∧ σ = mkSt [(1, oI v163), (2, oI v164), (3, oP 0 0), (7, oI v165), (8, oI v166), (29, oI v167)] [] [(0, (bT_Config g0 g1 g2 g3 v168))] 1) k ⟨_, ⟨a1, a2, (-1), 3, 0, a0, by omega, H, rfl⟩, lm [(0, 7)] hm⟩ ?_; clear H
     rintro k17 _ ⟨v163, v164, v165, v166, v167, v168, hk17, H, rfl⟩
     cases k17 with
     | zero => cases H
     | succ k17 =>
      rw [I_NextHop.l17] at H
      refine sg 1 ?_; refine WpC.seq ?_; refine cd H (fun hc H => ?_) (fun hc H => ?_)
      ·refine WpC.skip ?_; refine WpC.join (fun σ => ∃ (kj19 : Nat) (v180 v181 v182 v183 v184 : Int) (v185 : T_Config), kj19 ≤ K ∧ I_NextHop.j19 (I_NextHop.l17 k17) kj19 v180 v181 v182 v183 v184 v185 = some r ∧ σ = mkSt [(1, oI v180), (2, oI v181), (3, oP 0 0), (7, oI v182), (8, oI v183), (29, oI v184)] [] [(0, (bT_Config g0 g1 g2 g3 v185))] 1) ?_ ?_
       ·rintro _ ⟨kj19, v180, v181, v182, v183, v184, v185, hkj19, H, rfl⟩
        unfold I_NextHop.j19 at H; refine WpC.regionL ?_; refine gn 2 ?_; exact ⟨k17, _, by omega, ⟨v180, v181, v182, v183, (IntKind.i64.wrap (v184 + 1)), v185, by omega, H, rfl⟩, lm [(0, 0)] hm⟩
       ·refine WpC.block (sr ?_); refine gn 2 ?_; refine sy 3 ?_; refine cB 1 ent106 (g106 k17 g0 g1 g2 g3 v168 v167 v164 3) H fun r186 H => ?_; refine gn 1 ?_; refine WpC.join (fun σ => ∃ (kj20 : Nat) (v188 v189 v190 v191 v192 v193 : Int) (v194 : Bool) (v195 : T_Config), kj20 ≤ K ∧ I_NextHop.j20 (I_NextHop.l17 k17) kj20 v188 v189 v190 v191 v192 v193 v194 v195 = some r ∧ σ = mkSt [(1, oI v188), (2, oI v189), (3, oP 0 0), (7, oI v190), (8, oI v191), (9, oI v192), (10, oI v193), (29, oI v192), (46, oL v194)] [] [(0, (bT_Config g0 g1 g2 g3 v195))] 1) ?_ ?_
        ·rintro _ ⟨kj20, v188, v189, v190, v191, v192, v193, v194, v195, hkj20, H, rfl⟩
         unfold I_NextHop.j20 at H; refine cd H (fun hc H => ?_) (fun hc H => ?_)
         ·refine WpC.regionL ?_; refine gn 4 ?_; exact ⟨_, ⟨kj20, v188, v189, v192, v193, v192, v195, by omega, H, rfl⟩, lm [(0, 0)] hm⟩
         ·refine WpC.skip ?_; exact ⟨_, ⟨kj20, v188, v189, v190, v191, v192, v195, by omega, H, rfl⟩, lm [(0, 0)] hm⟩
        ·refine WpC.regionL ?_; refine go 4 ?_; refine bf built114 ?_; refine cB 2 ent107 (g107 k17 g2 v168.Links (⟨v163, v167⟩ : T_Pair)) H fun r196 H => ?_; refine mv ?_; refine sH H (fun hc H => ?_) (fun hc H => ?_)
         ·refine gn 4 ?_; exact ⟨_, ⟨k17, v163, v164, v165, v166, v167, r186, (decide (r186 < v166)), v168, by omega, H, rfl⟩, lm [(0, 0)] hm⟩
         ·refine gn 4 ?_; exact ⟨_, ⟨k17, v163, v164, v165, v166, v167, r186, false, v168, by omega, H, rfl⟩, lm [(0, 0)] hm⟩
      ·refine WpC.exit (sr ?_); refine gn 2 ?_; cases H; exact WpC.ret rt
/-! ### I_asked_ask -/
def I_asked_ask.j3 (k : Nat) (v35 : T_Ticket) (v36 : Int) (v37 : T_asked) (v38 v39 : Int) (v40 : T_Rest) : Option T_Reply := (I_asked_given k v37 (⟨v38, 0, v35.Client, v35.Client, 0, 0, v35.Key, 0, (⟨0, 0, 0⟩ : T_Rest)⟩ : T_Event) (⟨v35.Client, v39, v37.fresh, v40, v35.Path, v35.Via⟩ : T_Ticket) v36 v35.Key).bind fun r41 => some r41
def I_asked_ask.j2 (k : Nat) (v20 : Int) (v21 : Bool) (v22 : T_asked) (v23 : T_Rest) (v24 : T_Ticket) (v25 : T_Auth) : Option T_Reply := cond v21 (some (⟨2, ([] : List UInt8), (⟨0, 0, 0, 0, 0, 0, 0, 0, (⟨0, 0, 0⟩ : T_Rest)⟩ : T_Event)⟩ : T_Reply)) ((I_apart k v25.Time v22.now).bind fun r26 => cond (decide (r26 > v22.c.Skew)) (some (⟨3, ([] : List UInt8), (⟨0, 0, 0, 0, 0, 0, 0, 0, (⟨0, 0, 0⟩ : T_Rest)⟩ : T_Event)⟩ : T_Reply)) (cond (decide (v22.now > v24.Rest.End)) (some (⟨4, ([] : List UInt8), (⟨0, 0, 0, 0, 0, 0, 0, 0, (⟨0, 0, 0⟩ : T_Rest)⟩ : T_Event)⟩ : T_Reply)) (cond (decide ((v24.Path.length : Int) > 6)) (some (⟨5, ([] : List UInt8), (⟨0, 0, 0, 0, 0, 0, 0, 0, (⟨0, 0, 0⟩ : T_Rest)⟩ : T_Event)⟩ : T_Reply)) ((at? v22.parts 4).bind fun b27 => (I_Atom k ([] : List UInt8)).bind fun r28 => cond (b27 != r28) ((I_asked_delegate k v22 v24 v20 v23).bind fun r29 => some r29) ((at? v22.c.ServiceRealm v20).bind fun b30 => (I_PrincipalKey k (IntKind.i64.wrap (3 + v20))).bind fun r31 => (I_Meet k v24.Rest v23).bind fun r32 => cond (b30 != v22.realm) ((I_NextHop k v22.c v22.realm b30).bind fun r42 => cond (decide (r42 < 0)) (some (⟨5, ([] : List UInt8), (⟨0, 0, 0, 0, 0, 0, 0, 0, (⟨0, 0, 0⟩ : T_Rest)⟩ : T_Event)⟩ : T_Reply)) ((I_LinkKey k v22.realm r42).bind fun r43 => I_asked_ask.j3 k v24 r43 v22 3 (IntKind.i64.wrap (10 + r42)) r32)) (I_asked_ask.j3 k v24 r31 v22 2 v20 r32))))))
def I_asked_ask (k : Nat) (a0 : T_asked) (a1 : Int) : Option T_Reply := (at? a0.parts 3).bind fun b1 => (I_ReadRest k b1).bind fun r2 => (I_asked_ticket k a0).bind fun r3 => (I_isService k a1).bind fun r7 => cond (!r7) (some (⟨1, ([] : List UInt8), (⟨0, 0, 0, 0, 0, 0, 0, 0, (⟨0, 0, 0⟩ : T_Rest)⟩ : T_Event)⟩ : T_Reply)) (cond (!r2.2) (some (⟨1, ([] : List UInt8), (⟨0, 0, 0, 0, 0, 0, 0, 0, (⟨0, 0, 0⟩ : T_Rest)⟩ : T_Event)⟩ : T_Reply)) (cond (!r3.2) (some (⟨1, ([] : List UInt8), (⟨0, 0, 0, 0, 0, 0, 0, 0, (⟨0, 0, 0⟩ : T_Rest)⟩ : T_Event)⟩ : T_Reply)) ((at? a0.parts 2).bind fun b8 => (I_ReadAuth k b8 r3.1.Key).bind fun r9 => cond (!r9.2) (I_asked_ask.j2 k a1 true a0 r2.1 r3.1 r9.1) (I_asked_ask.j2 k a1 (r9.1.Client != r3.1.Client) a0 r2.1 r3.1 r9.1))))
theorem ent226 : MG.Enters Tryz.prog 226 := en func226
theorem g226 (k : Nat) (g0 g1 g2 g3 g4 : Bool) (a0 : T_asked) (a1 : Int) (r : T_Reply) (H : I_asked_ask k a0 a1 = some r) : Gives Tryz.prog 226 [V.agg (bT_asked g0 g1 g2 g3 g4 a0), V.one (cI a1)] [] [V.agg (bT_Reply r)] [] := by
 refine Gives.intro func226 rfl rfl rfl rfl ?_; refine fx fun w0 T S0 ob oh hm => ?_
 have hF := fxe w0 T S0 159 ob oh
 unfold I_asked_ask at H; obtain ⟨K, hK⟩ := leK k; refine sr ?_; refine bo 11 ?_; refine alc 12 info199 (L.nil ?_); refine sy 2 ?_; obtain ⟨b1, hb1, H⟩ := bindS H; refine ix underlying34 info9 hb1 ?_; refine le shape9 ?_; refine cB 13 ent247 (g247 k  b1) H fun r2 H => ?_; refine go 3 ?_; refine alc 17 info29 ?_; refine gn 2 ?_; refine sy 1 ?_; refine cB 18 ent248 (g248 k g0 g1 g2 g3 g4 a0) H fun r3 H => ?_; refine go 3 ?_; refine alc 27 info235 ?_; refine gn 2 ?_; refine WpC.seq (sr ?_); refine mv ?_; refine cB 28 ent55 (g55 k  a1) H fun r7 H => ?_; refine go 2 ?_; refine sH H (fun hc H => ?_) (fun hc H => ?_)
 ·refine gn 7 ?_; refine cT ?_; refine sr ?_; refine bf built199 ?_; refine gn 1 ?_; cases H; exact WpC.ret rt
 ·refine go 4 ?_; refine sH H (fun hc H => ?_) (fun hc H => ?_)
  ·refine gn 3 ?_; refine cT ?_; refine sr ?_; refine bf built199 ?_; refine gn 1 ?_; cases H; exact WpC.ret rt
  ·refine gn 3 ?_; refine cd H (fun hc H => ?_) (fun hc H => ?_)
   ·refine sr ?_; refine bf built199 ?_; refine gn 1 ?_; cases H; exact WpC.ret rt
   ·refine WpC.skip (WpC.seq ?_); obtain ⟨b8, hb8, H⟩ := bindS H; obtain ⟨r9, hr9, H⟩ := bindS H
    apply ldT ⟨[e0 1 _, e0 2 _, e0 4 _, e0 5 _, e0 7 _, ed 9 11 _, ed 10 13 _, ed 42 8 _, ed 43 1 _, ed 44 2 _, ed 45 3 _, ed 46 4 _, ed 47 5 _, ed 48 6 _, ed 49 7 _, ed 50 9 _, ed 51 10 _], [e0 24 _, e0 25 _], [e0 11 _, e0 12 _, e0 17 _, e0 27 _, (33, [(12, some _), (11, some _)])], 34, []⟩ [(0, 7118), (1, 7116), (3, 7112), (7, 7104), (0, 7136), (16, 7104), (63, 7040), (127, 6912), (255, 6144), (255, 4096), (0, 6144), (1535, 4096), (4095, 0)] mixed ?L1 ?_
    case L1 =>
     repeat refine ls ?_
     apply lc 34 29 0 [45] [] [] ?h1_2 ?q1_2 ?_
     case h1_2 =>
      intro b; refine ix underlying34 info9 hb8 ?_; exact L.nil ⟨rfl, rfl, rfl, rfl⟩
     case' q1_2 => skip
     repeat refine ls ?_
     apply lc 34 29 4 [49] [] [] ?h1_6 ?q1_6 ?_
     case h1_6 =>
      intro b; refine c0 34 ent249 (g249 k  b8 r3.1.Key r9 hr9) ?_; exact L.nil ⟨rfl, rfl, rfl, rfl⟩
     case' q1_6 => skip
     repeat refine ls ?_
     apply lc 34 33 1 [9] [] [33] ?h1_10 ?q1_10 ?_
     case h1_10 =>
      intro b; refine alc 34 info56 ?_; exact L.nil ⟨rfl, rfl, rfl, rfl⟩
     case' q1_10 => skip
     refine lb ?_
     repeat refine ls ?_
     exact trivial
     all_goals exact lq
    refine WpC.seq (WpC.block ?_); refine WpC.join (fun σ => ∃ (kj2 : Nat) (v20 : Int) (v21 : Bool) (v22 : T_asked) (v23 : T_Rest) (v24 : T_Ticket) (v25 : T_Auth), kj2 ≤ K ∧ I_asked_ask.j2 kj2 v20 v21 v22 v23 v24 v25 = some r ∧ σ = mkSt [(1, oI v20), (2, oP 0 0), (4, oP 1 0), (5, oP 2 0), (7, oP 3 0), (9, oP 4 0), (52, oL v21)] [(5, ⟨1, List.map eI v24.Path⟩), (6, ⟨1, List.map eI v24.Via⟩)] [(0, (bT_asked g0 g1 g2 g3 g4 v22)), (1, zc0), (2, (bT_Rest v23)), (3, [cI v24.Client, cI v24.Service, cI v24.Key, cI v24.Rest.Servers, cI v24.Rest.Ops, cI v24.Rest.End, Cell.own 5, Cell.own 6]), (4, (bT_Auth v25))] 7) ?_ ?_
    ·rintro _ ⟨kj2, v20, v21, v22, v23, v24, v25, hkj2, H, rfl⟩
     unfold I_asked_ask.j2 at H; refine cd H (fun hc H => ?_) (fun hc H => ?_)
     ·refine sr ?_; refine bf built199 ?_; refine gn 1 ?_; cases H; exact WpC.ret rt
     ·refine WpC.seq ?_; obtain ⟨r26, hr26, H⟩ := bindS H
      apply ldT ⟨[e0 1 _, e0 2 _, e0 4 _, e0 5 _, e0 7 _, e0 9 _, ed 63 10 _, ed 64 1 _, ed 65 2 _, ed 66 3 _, ed 67 4 _, ed 68 5 _, ed 69 6 _, ed 70 7 _, ed 71 8 _, ed 72 9 _], [e0 5 _, e0 6 _], [e0 0 _, e0 1 _, e0 2 _, e0 3 _, e0 4 _], 8, []⟩ [(0, 786), (1, 784), (0, 792), (4, 784), (15, 768), (0, 960), (32, 896), (96, 768), (255, 512), (511, 0)] mixed ?L2 ?_
      case L2 =>
       repeat refine ls ?_
       apply lc 8 7 1 [68] [] [] ?h2_4 ?q2_4 ?_
       case h2_4 =>
        intro b; refine c0 8 ent245 (g245 kj2  v25.Time v22.now r26 hr26) ?_; exact L.nil ⟨rfl, rfl, rfl, rfl⟩
       case' q2_4 => skip
       repeat refine ls ?_
       exact trivial
       all_goals exact lq
      refine cd H (fun hc H => ?_) (fun hc H => ?_)
      ·refine sr ?_; refine bf built199 ?_; refine gn 1 ?_; cases H; exact WpC.ret rt
      ·refine sg 7 ?_; refine cd H (fun hc H => ?_) (fun hc H => ?_)
       ·refine sr ?_; refine bf built199 ?_; refine gn 1 ?_; cases H; exact WpC.ret rt
       ·refine sy 2 ?_; refine L.lenR (xs := v24.Path) (e := eI) underlying24 hF rfl rfl rfl rfl ?_; refine gn 2 ?_; refine cd H (fun hc H => ?_) (fun hc H => ?_)
        ·refine sr ?_; refine bf built199 ?_; refine gn 1 ?_; cases H; exact WpC.ret rt
        ·refine WpC.seq ?_; obtain ⟨b27, hb27, H⟩ := bindS H; obtain ⟨r28, hr28, H⟩ := bindS H
         apply ldT ⟨[e0 1 _, e0 2 _, e0 4 _, e0 5 _, e0 7 _, ed 88 7 _, ed 89 1 _, ed 90 2 _, ed 91 3 _, ed 92 4 _, ed 93 5 _, ed 94 6 _], [e0 5 _, e0 6 _], [e0 0 _, e0 1 _, e0 2 _, e0 3 _], 9, []⟩ [(0, 110), (1, 108), (3, 104), (7, 96), (0, 96), (31, 64), (63, 0)] mixed ?L3 ?_
         case L3 =>
          repeat refine ls ?_
          apply lc 9 8 0 [91] [] [] ?h3_2 ?q3_2 ?_
          case h3_2 =>
           intro b; refine ix underlying34 info9 hb27 ?_; exact L.nil ⟨rfl, rfl, rfl, rfl⟩
          case' q3_2 => skip
          repeat refine ls ?_
          apply lc 9 8 1 [93] [] [] ?h3_4 ?q3_4 ?_
          case h3_4 =>
           intro b; refine c0 9 ent221 (g221 kj2  ([] : List UInt8) r28 hr28) ?_; exact L.nil ⟨rfl, rfl, rfl, rfl⟩
          case' q3_4 => skip
          apply lc 9 9 0 [94] [] [] ?h3_5 ?q3_5 ?_
          case h3_5 =>
           intro b; refine L.binS hF rfl rfl rfl rfl rfl ?_; exact L.nil ⟨rfl, rfl, rfl, rfl⟩
          case' q3_5 => skip
          repeat refine ls ?_
          exact trivial
          all_goals exact lq
         refine cd H (fun hc H => ?_) (fun hc H => ?_)
         ·refine sy 4 ?_; obtain ⟨r29, hr29, H⟩ := bindS H; refine ca [false, false, false, false] [5, 6] [] 9 ent250 (g250 kj2 g0 g1 g2 g3 g4 false false v22 v24 v20 v23 r29 hr29) ?_; refine gn 1 ?_; cases H; exact WpC.ret rt
         ·refine WpC.skip (sr ?_); refine go 6 ?_; refine bf built47 ?_; refine alc 9 info47 ?_; refine gn 1 ?_; refine sg 3 ?_; refine sy 4 ?_; obtain ⟨b30, hb30, H⟩ := bindS H; refine ix underlying24 info3 hb30 ?_; refine gn 2 ?_; refine sy 2 ?_; refine cB 10 ent17 (g17 kj2  (IntKind.i64.wrap (3 + v20))) H fun r31 H => ?_; refine gn 1 ?_; refine WpC.seq ?_; obtain ⟨r32, hr32, H⟩ := bindS H
          apply ldT ⟨[e0 1 _, e0 2 _, e0 4 _, e0 5 _, e0 7 _, e0 11 _, e0 12 _, e0 13 _, e0 14 _, ed 15 15 _, ed 118 1 _, ed 119 2 _, ed 120 3 _, ed 121 4 _, ed 122 5 _, ed 123 6 _, ed 124 7 _, ed 125 8 _, ed 126 9 _, ed 127 10 _, ed 128 11 _, ed 129 12 _, ed 130 13 _, ed 131 14 _], [e0 5 _, e0 6 _], [e0 0 _, e0 1 _, e0 2 _, e0 3 _, e0 9 _, (14, [(16, some _), (15, some _)])], 15, []⟩ [(0, 40962), (1, 40960), (0, 40960), (0, 40976), (8, 40960), (0, 41280), (32, 41216), (0, 41216), (224, 40960), (0, 41984), (512, 40960), (0, 45056), (2048, 40960), (8191, 32768), (0, 32768), (32767, 0)] mixed ?L4 ?_
          case L4 =>
           repeat refine ls ?_
           apply lc 15 11 3 [126] [] [] ?h4_8 ?q4_8 ?_
           case h4_8 =>
            intro b; refine c0 15 ent251 (g251 kj2  v24.Rest v23 r32 hr32) ?_; exact L.nil ⟨rfl, rfl, rfl, rfl⟩
           case' q4_8 => skip
           repeat refine ls ?_
           apply lc 15 14 0 [131] [] [] ?h4_13 ?q4_13 ?_
           case h4_13 =>
            intro b; refine bf built235 ?_; exact L.nil ⟨rfl, rfl, rfl, rfl⟩
           case' q4_13 => skip
           apply lc 15 14 1 [15] [] [14] ?h4_14 ?q4_14 ?_
           case h4_14 =>
            intro b; refine alc 15 info235 ?_; exact L.nil ⟨rfl, rfl, rfl, rfl⟩
           case' q4_14 => skip
           refine lb ?_; exact trivial
           all_goals exact lq
          refine WpC.join (fun σ => ∃ (kj3 : Nat) (v35 : T_Ticket) (v36 : Int) (v37 : T_asked) (v38 v39 : Int) (v40 : T_Rest), kj3 ≤ K ∧ I_asked_ask.j3 kj3 v35 v36 v37 v38 v39 v40 = some r ∧ σ = mkSt [(2, oP 0 0), (4, oP 1 0), (11, oP 2 0), (12, oI v35.Key), (14, oI v36), (15, oP 3 0)] [(4, ⟨1, List.map eI v35.Path⟩), (5, ⟨1, List.map eI v35.Via⟩)] [(0, (bT_asked g0 g1 g2 g3 g4 v37)), (1, zc0), (2, [cI v38, cI 0, cI v35.Client, cI v35.Client, cI 0, cI 0, cI v35.Key, cI 0, cI 0, cI 0, cI 0]), (3, [cI v35.Client, cI v39, cI v37.fresh, cI v40.Servers, cI v40.Ops, cI v40.End, Cell.own 4, Cell.own 5])] 6) ?_ ?_
          ·rintro _ ⟨kj3, v35, v36, v37, v38, v39, v40, hkj3, H, rfl⟩
           unfold I_asked_ask.j3 at H; refine sy 5 ?_; obtain ⟨r41, hr41, H⟩ := bindS H; refine ca [false, false, false, false, false] [4, 5] [] 6 ent246 (g246 kj3 g0 g1 g2 g3 g4 false false v37 (⟨v38, 0, v35.Client, v35.Client, 0, 0, v35.Key, 0, (⟨0, 0, 0⟩ : T_Rest)⟩ : T_Event) (⟨v35.Client, v39, v37.fresh, v40, v35.Path, v35.Via⟩ : T_Ticket) v36 v35.Key r41 hr41) ?_; refine gn 1 ?_; cases H; exact WpC.ret rt
          ·refine sg 4 ?_; refine cd H (fun hc H => ?_) (fun hc H => ?_)
           ·refine sy 5 ?_; refine cB 15 ent58 (g58 kj2 g0 g1 g2 g3 v22.c v22.realm b30) H fun r42 H => ?_; refine gn 1 ?_; refine WpC.seq (sr ?_); refine gn 2 ?_; refine cd H (fun hc H => ?_) (fun hc H => ?_)
            ·refine sr ?_; refine bf built199 ?_; refine gn 1 ?_; cases H; exact WpC.ret rt
            ·refine WpC.skip (sr ?_); refine gn 2 ?_; refine sg 4 ?_; refine WpC.regionL ?_; refine go 3 ?_; refine cB 16 ent72 (g72 kj2  v22.realm r42) H fun r43 H => ?_; refine gn 1 ?_; exact ⟨_, ⟨kj2, v24, r43, v22, 3, (IntKind.i64.wrap (10 + r42)), r32, by omega, H, rfl⟩, lm [(0, 0), (1, 1), (2, 9), (3, 14), (4, 5), (5, 6)] hm⟩
           ·refine WpC.skip ?_; exact ⟨_, ⟨kj2, v24, r31, v22, 2, v20, r32, by omega, H, rfl⟩, lm [(0, 0), (1, 1), (2, 9), (3, 14), (4, 5), (5, 6)] hm⟩
    ·refine WpC.regionL ?_; refine go 3 ?_; refine sH H (fun hc H => ?_) (fun hc H => ?_)
     ·refine gn 7 ?_; exact ⟨_, ⟨k, a1, true, a0, r2.1, r3.1, r9.1, by omega, H, rfl⟩, lm [(0, 11), (1, 12), (2, 17), (3, 27), (4, 33), (5, 24), (6, 25)] hm⟩
     ·refine gn 7 ?_; exact ⟨_, ⟨k, a1, (r9.1.Client != r3.1.Client), a0, r2.1, r3.1, r9.1, by omega, H, rfl⟩, lm [(0, 11), (1, 12), (2, 17), (3, 27), (4, 33), (5, 24), (6, 25)] hm⟩
/-! ### I_Centre -/
def I_Centre.j4 (k : Nat) (v65 : List Int) (v66 : Bool) (v67 : T_Config) (v68 v69 v70 v71 : Int) (v72 : List (List UInt8)) : Option T_Reply := cond v66 ((at? v65 1).bind fun b73 => (I_asked_ask k (⟨v67, v68, v69, v70, v71, v72⟩ : T_asked) b73).bind fun r74 => some r74) (some (⟨1, ([] : List UInt8), (⟨0, 0, 0, 0, 0, 0, 0, 0, (⟨0, 0, 0⟩ : T_Rest)⟩ : T_Event)⟩ : T_Reply))
def I_Centre.j3 (k : Nat) (v54 : List (List UInt8)) (v55 : List Int) (v56 : Bool) (v57 : T_Config) (v58 v59 v60 v61 : Int) : Option T_Reply := cond v56 ((at? v55 1).bind fun b62 => (I_asked_login k (⟨v57, v58, v59, v60, v61, v54⟩ : T_asked) b62).bind fun r63 => some r63) ((at? v55 0).bind fun b75 => cond (b75 == 2) (I_Centre.j4 k v55 ((v54.length : Int) == 5) v57 v58 v59 v60 v61 v54) (I_Centre.j4 k v55 false v57 v58 v59 v60 v61 v54))
def I_Centre (k : Nat) (a0 : T_Config) (a1 a2 a3 : Int) (a4 : List UInt8) : Option T_Reply := (I_Parts k a4).bind fun r1 => (I_ConfigOk k a0).bind fun r14 => cond (!r14) (some (⟨1, ([] : List UInt8), (⟨0, 0, 0, 0, 0, 0, 0, 0, (⟨0, 0, 0⟩ : T_Rest)⟩ : T_Event)⟩ : T_Reply)) ((I_isRealm k a1).bind fun r15 => cond (!r15) (some (⟨1, ([] : List UInt8), (⟨0, 0, 0, 0, 0, 0, 0, 0, (⟨0, 0, 0⟩ : T_Rest)⟩ : T_Event)⟩ : T_Reply)) ((I_isTime k a2).bind fun r16 => cond (!r16) (some (⟨1, ([] : List UInt8), (⟨0, 0, 0, 0, 0, 0, 0, 0, (⟨0, 0, 0⟩ : T_Rest)⟩ : T_Event)⟩ : T_Reply)) ((I_within k a3 101 1000000).bind fun r17 => cond (!r17) (some (⟨1, ([] : List UInt8), (⟨0, 0, 0, 0, 0, 0, 0, 0, (⟨0, 0, 0⟩ : T_Rest)⟩ : T_Event)⟩ : T_Reply)) (cond (!r1.2) (some (⟨1, ([] : List UInt8), (⟨0, 0, 0, 0, 0, 0, 0, 0, (⟨0, 0, 0⟩ : T_Rest)⟩ : T_Event)⟩ : T_Reply)) (cond ((r1.1.length : Int) == 0) (some (⟨1, ([] : List UInt8), (⟨0, 0, 0, 0, 0, 0, 0, 0, (⟨0, 0, 0⟩ : T_Rest)⟩ : T_Event)⟩ : T_Reply)) ((at? r1.1 0).bind fun b18 => (I_ReadNums k b18).bind fun r19 => cond (!r19.2) (some (⟨1, ([] : List UInt8), (⟨0, 0, 0, 0, 0, 0, 0, 0, (⟨0, 0, 0⟩ : T_Rest)⟩ : T_Event)⟩ : T_Reply)) (cond ((r19.1.length : Int) != 3) (some (⟨1, ([] : List UInt8), (⟨0, 0, 0, 0, 0, 0, 0, 0, (⟨0, 0, 0⟩ : T_Rest)⟩ : T_Event)⟩ : T_Reply)) ((at? r19.1 2).bind fun b26 => (I_isNonce k b26).bind fun r27 => cond (!r27) (some (⟨1, ([] : List UInt8), (⟨0, 0, 0, 0, 0, 0, 0, 0, (⟨0, 0, 0⟩ : T_Rest)⟩ : T_Event)⟩ : T_Reply)) ((at? r19.1 2).bind fun b28 => (at? r19.1 0).bind fun b76 => cond (b76 == 1) (I_Centre.j3 k r1.1 r19.1 ((r1.1.length : Int) == 2) a0 a1 a2 a3 b28) (I_Centre.j3 k r1.1 r19.1 false a0 a1 a2 a3 b28))))))))))
theorem ent188 : MG.Enters Tryz.prog 188 := en func188
theorem g188 (k : Nat) (g0 g1 g2 g3 : Bool) (a0 : T_Config) (a1 a2 a3 : Int) (a4 : List UInt8) (r : T_Reply) (H : I_Centre k a0 a1 a2 a3 a4 = some r) : Gives Tryz.prog 188 [V.agg (bT_Config g0 g1 g2 g3 a0), V.one (cI a1), V.one (cI a2), V.one (cI a3), V.one (cS a4)] [] [V.agg (bT_Reply r)] [] := by
 refine Gives.intro func188 rfl rfl rfl rfl ?_; refine fx fun w0 T S0 ob oh hm => ?_
 have hF := fxe w0 T S0 111 ob oh
 unfold I_Centre at H; obtain ⟨K, hK⟩ := leK k; refine sr ?_; refine bo 9 ?_; refine alc 10 info199 (L.nil ?_); refine sy 1 ?_; refine cB 11 ent146 (g146 k  a4) H fun r1 H => ?_; refine gn 5 ?_; refine WpC.seq (sr ?_); refine lp shape27 ?_; refine cB 13 ent54 (g54 k g0 g1 g2 g3 a0) H fun r14 H => ?_; refine go 2 ?_; refine sH H (fun hc H => ?_) (fun hc H => ?_)
 ·refine gn 23 ?_; refine cT ?_; refine sr ?_; refine bf built199 ?_; refine gn 1 ?_; cases H; exact WpC.ret rt
 ·refine mv ?_; refine cB 14 ent102 (g102 k  a1) H fun r15 H => ?_; refine go 3 ?_; refine sH H (fun hc H => ?_) (fun hc H => ?_)
  ·refine gn 18 ?_; refine cT ?_; refine sr ?_; refine bf built199 ?_; refine gn 1 ?_; cases H; exact WpC.ret rt
  ·refine mv ?_; refine cB 15 ent105 (g105 k  a2) H fun r16 H => ?_; refine go 3 ?_; refine sH H (fun hc H => ?_) (fun hc H => ?_)
   ·refine gn 13 ?_; refine cT ?_; refine sr ?_; refine bf built199 ?_; refine gn 1 ?_; cases H; exact WpC.ret rt
   ·refine mv ?_; refine cB 16 ent52 (g52 k  a3 101 1000000) H fun r17 H => ?_; refine go 3 ?_; refine sH H (fun hc H => ?_) (fun hc H => ?_)
    ·refine gn 8 ?_; refine cT ?_; refine sr ?_; refine bf built199 ?_; refine gn 1 ?_; cases H; exact WpC.ret rt
    ·refine go 4 ?_; refine sH H (fun hc H => ?_) (fun hc H => ?_)
     ·refine gn 4 ?_; refine cT ?_; refine sr ?_; refine bf built199 ?_; refine gn 1 ?_; cases H; exact WpC.ret rt
     ·refine mv ?_; refine L.lenR (xs := r1.1) (e := eS) underlying34 hF rfl rfl rfl rfl ?_; refine gn 2 ?_; refine cd H (fun hc H => ?_) (fun hc H => ?_)
      ·refine sr ?_; refine bf built199 ?_; refine gn 1 ?_; cases H; exact WpC.ret rt
      ·refine WpC.skip (sr ?_); refine mv ?_; obtain ⟨b18, hb18, H⟩ := bindS H; refine ix underlying34 info9 hb18 ?_; refine L.loadEp (xs := r1.1) (e := eS) shape9 hF rfl rfl rfl rfl (at?_get hb18).2 rfl rfl ?_; refine cB 17 ent224 (g224 k  b18) H fun r19 H => ?_; refine gn 5 ?_; refine WpC.seq (sr ?_); refine go 3 ?_; refine sH H (fun hc H => ?_) (fun hc H => ?_)
       ·refine gn 11 ?_; refine cT ?_; refine sr ?_; refine bf built199 ?_; refine gn 1 ?_; cases H; exact WpC.ret rt
       ·refine mv ?_; refine L.lenR (xs := r19.1) (e := eI) underlying24 hF rfl rfl rfl rfl ?_; refine go 3 ?_; refine sH H (fun hc H => ?_) (fun hc H => ?_)
        ·refine gn 6 ?_; refine cT ?_; refine sr ?_; refine bf built199 ?_; refine gn 1 ?_; cases H; exact WpC.ret rt
        ·refine mv ?_; obtain ⟨b26, hb26, H⟩ := bindS H; refine ix underlying24 info3 hb26 ?_; refine L.loadEp (xs := r19.1) (e := eI) shape3 hF rfl rfl rfl rfl (at?_get hb26).2 rfl rfl ?_; refine cB 19 ent161 (g161 k  b26) H fun r27 H => ?_; refine gn 2 ?_; refine cd H (fun hc H => ?_) (fun hc H => ?_)
         ·refine sr ?_; refine bf built199 ?_; refine gn 1 ?_; cases H; exact WpC.ret rt
         ·refine WpC.skip (WpC.seq ?_); obtain ⟨b28, hb28, H⟩ := bindS H
          apply ldT ⟨[e0 1 _, e0 2 _, e0 3 _, e0 5 _, e0 10 _, e0 11 _, e0 13 _, ed 15 10 _, ed 71 1 _, ed 72 2 _, ed 73 3 _, ed 74 4 _, ed 75 5 _, ed 76 6 _, ed 77 7 _, ed 78 8 _, ed 79 9 _], [e0 11 _, e0 17 _], [e0 9 _, e0 10 _, (20, [(11, some _), (10, some _)])], 21, []⟩ [(0, 1280), (0, 1280), (0, 1280), (0, 1280), (0, 1376), (16, 1344), (48, 1280), (0, 1280), (255, 1024), (0, 1024), (1023, 0)] mixed ?L1 ?_
          case L1 =>
           repeat refine ls ?_
           apply lc 21 20 0 [76] [] [] ?h1_5 ?q1_5 ?_
           case h1_5 =>
            intro b; refine ix underlying24 info3 hb28 ?_; exact L.nil ⟨rfl, rfl, rfl, rfl⟩
           case' q1_5 => skip
           apply lc 21 20 0 [77] [] [] ?h1_6 ?q1_6 ?_
           case h1_6 =>
            intro b; refine L.loadEp (xs := r19.1) (e := eI) shape3 hF rfl rfl rfl rfl (at?_get hb28).2 rfl rfl ?_; exact L.nil ⟨rfl, rfl, rfl, rfl⟩
           case' q1_6 => skip
           repeat refine ls ?_
           apply lc 21 20 0 [79] [] [] ?h1_8 ?q1_8 ?_
           case h1_8 =>
            intro b; refine bf built228 ?_; exact L.nil ⟨rfl, rfl, rfl, rfl⟩
           case' q1_8 => skip
           apply lc 21 20 1 [15] [] [20] ?h1_9 ?q1_9 ?_
           case h1_9 =>
            intro b; refine alc 21 info228 ?_; exact L.nil ⟨rfl, rfl, rfl, rfl⟩
           case' q1_9 => skip
           refine lb ?_; exact trivial
           all_goals exact lq
          refine WpC.seq (WpC.block ?_); refine WpC.join (fun σ => ∃ (kj3 : Nat) (v54 : List (List UInt8)) (v55 : List Int) (v56 : Bool) (v57 : T_Config) (v58 v59 v60 v61 : Int), kj3 ≤ K ∧ I_Centre.j3 kj3 v54 v55 v56 v57 v58 v59 v60 v61 = some r ∧ σ = mkSt [(10, oP 0 0), (11, MG.one (Cell.own 1)), (13, MG.one (Cell.own 2)), (15, oP 3 0), (80, oL v56)] [(1, ⟨1, List.map eS v54⟩), (2, ⟨1, List.map eI v55⟩)] [(0, zc0), (3, [Cell.sl g0 (List.map eI v57.UserRealm), Cell.sl g1 (List.map eI v57.ServiceRealm), Cell.sl g2 (List.map eT_Pair v57.Links), Cell.sl g3 (List.map eT_Pair v57.Proxy), cI v57.Skew, cI v58, cI v59, cI v60, cI v61, Cell.own 1])] 4) ?_ ?_
          ·rintro _ ⟨kj3, v54, v55, v56, v57, v58, v59, v60, v61, hkj3, H, rfl⟩
           unfold I_Centre.j3 at H; refine cd H (fun hc H => ?_) (fun hc H => ?_)
           ·refine WpC.seq ?_; obtain ⟨b62, hb62, H⟩ := bindS H; obtain ⟨r63, hr63, H⟩ := bindS H
            apply ldT ⟨[e0 10 _, e0 13 _, e0 15 _, ed 90 1 _, ed 91 2 _, ed 92 3 _, ed 93 4 _, ed 94 5 _], [e0 1 _, e0 2 _], [(0, [(6, some _), (0, some _)]), e0 3 _], 17, []⟩ [(0, 48), (0, 60), (2, 56), (6, 48), (15, 32), (31, 0)] mixed ?L2 ?_
            case L2 =>
             repeat refine ls ?_
             apply lc 17 4 0 [92] [] [] ?h2_2 ?q2_2 ?_
             case h2_2 =>
              intro b; refine ix underlying24 info3 hb62 ?_; exact L.nil ⟨rfl, rfl, rfl, rfl⟩
             case' q2_2 => skip
             apply lc 17 4 0 [93] [] [] ?h2_3 ?q2_3 ?_
             case h2_3 =>
              intro b; refine L.loadEp (xs := v55) (e := eI) shape3 hF rfl rfl rfl rfl (at?_get hb62).2 rfl rfl ?_; exact L.nil ⟨rfl, rfl, rfl, rfl⟩
             case' q2_3 => skip
             apply lc 17 4 13 [94] [] [] ?h2_4 ?q2_4 ?_
             case h2_4 =>
              intro b; refine ca [false, false] [1] [] 17 ent225 (g225 kj3 g0 g1 g2 g3 false (⟨v57, v58, v59, v60, v61, v54⟩ : T_asked) b62 r63 hr63) ?_; exact L.nil ⟨rfl, rfl, rfl, rfl⟩
             case' q2_4 => skip
             refine lb ?_; exact trivial
             all_goals exact lq
            cases H; exact WpC.ret rt
           ·refine WpC.join (fun σ => ∃ (kj4 : Nat) (v65 : List Int) (v66 : Bool) (v67 : T_Config) (v68 v69 v70 v71 : Int) (v72 : List (List UInt8)), kj4 ≤ K ∧ I_Centre.j4 kj4 v65 v66 v67 v68 v69 v70 v71 v72 = some r ∧ σ = mkSt [(10, oP 0 0), (13, MG.one (Cell.own 1)), (15, oP 2 0), (95, oL v66)] [(1, ⟨1, List.map eI v65⟩), (3, ⟨1, List.map eS v72⟩)] [(0, zc0), (2, [Cell.sl g0 (List.map eI v67.UserRealm), Cell.sl g1 (List.map eI v67.ServiceRealm), Cell.sl g2 (List.map eT_Pair v67.Links), Cell.sl g3 (List.map eT_Pair v67.Proxy), cI v67.Skew, cI v68, cI v69, cI v70, cI v71, Cell.own 3])] 4) ?_ ?_
            ·rintro _ ⟨kj4, v65, v66, v67, v68, v69, v70, v71, v72, hkj4, H, rfl⟩
             unfold I_Centre.j4 at H; refine cd H (fun hc H => ?_) (fun hc H => ?_)
             ·refine WpC.seq ?_; obtain ⟨b73, hb73, H⟩ := bindS H; obtain ⟨r74, hr74, H⟩ := bindS H
              apply ldT ⟨[e0 10 _, e0 13 _, e0 15 _, ed 105 1 _, ed 106 2 _, ed 107 3 _, ed 108 4 _, ed 109 5 _], [e0 1 _, e0 3 _], [(0, [(6, some _), (0, some _)]), e0 2 _], 17, []⟩ [(0, 48), (0, 60), (2, 56), (6, 48), (15, 32), (31, 0)] mixed ?L3 ?_
              case L3 =>
               repeat refine ls ?_
               apply lc 17 4 0 [107] [] [] ?h3_2 ?q3_2 ?_
               case h3_2 =>
                intro b; refine ix underlying24 info3 hb73 ?_; exact L.nil ⟨rfl, rfl, rfl, rfl⟩
               case' q3_2 => skip
               apply lc 17 4 0 [108] [] [] ?h3_3 ?q3_3 ?_
               case h3_3 =>
                intro b; refine L.loadEp (xs := v65) (e := eI) shape3 hF rfl rfl rfl rfl (at?_get hb73).2 rfl rfl ?_; exact L.nil ⟨rfl, rfl, rfl, rfl⟩
               case' q3_3 => skip
               apply lc 17 4 13 [109] [] [] ?h3_4 ?q3_4 ?_
               case h3_4 =>
                intro b; refine ca [false, false] [3] [] 17 ent226 (g226 kj4 g0 g1 g2 g3 false (⟨v67, v68, v69, v70, v71, v72⟩ : T_asked) b73 r74 hr74) ?_; exact L.nil ⟨rfl, rfl, rfl, rfl⟩
               case' q3_4 => skip
               refine lb ?_; exact trivial
               all_goals exact lq
              cases H; exact WpC.ret rt
             ·refine WpC.skip (sr ?_); refine bf built199 ?_; refine gn 1 ?_; cases H; exact WpC.ret rt
            ·refine WpC.regionL ?_; refine mv ?_; obtain ⟨b75, hb75, H⟩ := bindS H; refine ix underlying24 info3 hb75 ?_; refine L.loadEp (xs := v55) (e := eI) shape3 hF rfl rfl rfl rfl (at?_get hb75).2 rfl rfl ?_; refine go 2 ?_; refine sH H (fun hc H => ?_) (fun hc H => ?_)
             ·refine mv ?_; refine L.lenR (xs := v54) (e := eS) underlying34 hF rfl rfl rfl rfl ?_; refine gn 3 ?_; exact ⟨_, ⟨kj3, v55, ((v54.length : Int) == 5), v57, v58, v59, v60, v61, v54, by omega, H, rfl⟩, lm [(0, 0), (1, 2), (2, 3), (3, 1)] hm⟩
             ·refine gn 5 ?_; exact ⟨_, ⟨kj3, v55, false, v57, v58, v59, v60, v61, v54, by omega, H, rfl⟩, lm [(0, 0), (1, 2), (2, 3), (3, 1)] hm⟩
          ·refine WpC.regionL ?_; refine mv ?_; obtain ⟨b76, hb76, H⟩ := bindS H; refine ix underlying24 info3 hb76 ?_; refine L.loadEp (xs := r19.1) (e := eI) shape3 hF rfl rfl rfl rfl (at?_get hb76).2 rfl rfl ?_; refine go 2 ?_; refine sH H (fun hc H => ?_) (fun hc H => ?_)
           ·refine mv ?_; refine L.lenR (xs := r1.1) (e := eS) underlying34 hF rfl rfl rfl rfl ?_; refine gn 3 ?_; exact ⟨_, ⟨k, r1.1, r19.1, ((r1.1.length : Int) == 2), a0, a1, a2, a3, b28, by omega, H, rfl⟩, lm [(0, 10), (1, 11), (2, 17), (3, 20)] hm⟩
           ·refine gn 5 ?_; exact ⟨_, ⟨k, r1.1, r19.1, false, a0, a1, a2, a3, b28, by omega, H, rfl⟩, lm [(0, 10), (1, 11), (2, 17), (3, 20)] hm⟩
/-! ### I_World_centre -/
def I_World_centre (k : Nat) (a1 : T_Act) (o0 : T_World) : Option (Int × T_World) := (I_World_message k a1.B o0).bind fun r1 => (I_isRealm k a1.A).bind fun r5 => cond (!r5) (some (2, o0)) (cond (!r1.2) (some (2, o0)) ((I_Centre k o0.Config a1.A o0.Now o0.Fresh r1.1).bind fun r6 => cond (r6.Code != 0) (some (3, o0)) (cond ((o0.Log.length : Int) == 40) (some (3, o0)) ((I_World_send k r6.Term o0).bind fun r10 => cond (r10.1 != 0) (some (3, r10.2)) (cond (decide ((2 * (r10.2.Log.length + ([r6.Event] : List T_Event).length) + 192) * 88 ≤ 281474976710656)) (some (0, (⟨r10.2.Config, r10.2.Now, r10.2.Fresh, r10.2.Net, r10.2.Known, r10.2.Waits, r10.2.Creds, r10.2.Caches, (r10.2.Log ++ ([r6.Event] : List T_Event)), r10.2.Accepts, r10.2.Leaked⟩ : T_World))) none)))))
theorem ent136 : MG.Enters Tryz.prog 136 := en func136
theorem g136 (k : Nat) (a1 : T_Act) (o0 : T_World) (r : Int × T_World) (H : I_World_centre k a1 o0 = some r) : Gives Tryz.prog 136 [V.one (Cell.ptr 0 0), V.agg (bT_Act a1)] [[Cell.ow 1 (List.map eI o0.Config.UserRealm), Cell.ow 1 (List.map eI o0.Config.ServiceRealm), Cell.ow 2 (List.map eT_Pair o0.Config.Links), Cell.ow 2 (List.map eT_Pair o0.Config.Proxy), cI o0.Config.Skew, cI o0.Now, cI o0.Fresh, Cell.ow 1 (List.map eS o0.Net), Cell.ow 1 (List.map eS o0.Known.Terms), Cell.ow 1 (List.map eI o0.Known.Keys), Cell.ow 4 (List.map eT_Wait o0.Waits), Cell.ow 8 (List.map eT_Cred o0.Creds), Cell.ow 2 (List.map eT_Cache o0.Caches), Cell.ow 11 (List.map eT_Event o0.Log), Cell.ow 15 (List.map eT_Accept o0.Accepts), Cell.ow 1 (List.map eI o0.Leaked)]] [V.one (cI r.1)] [[Cell.ow 1 (List.map eI r.2.Config.UserRealm), Cell.ow 1 (List.map eI r.2.Config.ServiceRealm), Cell.ow 2 (List.map eT_Pair r.2.Config.Links), Cell.ow 2 (List.map eT_Pair r.2.Config.Proxy), cI r.2.Config.Skew, cI r.2.Now, cI r.2.Fresh, Cell.ow 1 (List.map eS r.2.Net), Cell.ow 1 (List.map eS r.2.Known.Terms), Cell.ow 1 (List.map eI r.2.Known.Keys), Cell.ow 4 (List.map eT_Wait r.2.Waits), Cell.ow 8 (List.map eT_Cred r.2.Creds), Cell.ow 2 (List.map eT_Cache r.2.Caches), Cell.ow 11 (List.map eT_Event r.2.Log), Cell.ow 15 (List.map eT_Accept r.2.Accepts), Cell.ow 1 (List.map eI r.2.Leaked)]] := by
 refine Gives.intro func136 rfl rfl rfl rfl ?_; refine fx fun w0 T S0 ob oh hm => ?_
 have hF := fxe w0 T S0 68 ob oh
 unfold I_World_centre at H; obtain ⟨K, hK⟩ := leK k; refine sr ?_; refine bo 27 ?_; refine gn 1 ?_; refine sy 3 ?_; obtain ⟨r1, hr1, H⟩ := bindS H; refine ca [false, false] [] [0] 28 ent180 (g180 k  a1.B o0 r1 hr1) ?_; refine gn 5 ?_; refine WpC.seq (sr ?_); refine go 2 ?_; refine cB 46 ent102 (g102 k  a1.A) H fun r5 H => ?_; refine go 2 ?_; refine sH H (fun hc H => ?_) (fun hc H => ?_)
 ·refine gn 3 ?_; refine cT ?_; refine sg 1 ?_; cases H; exact WpC.ret rt
 ·refine gn 3 ?_; refine cd H (fun hc H => ?_) (fun hc H => ?_)
  ·refine sg 1 ?_; cases H; exact WpC.ret rt
  ·refine WpC.skip (WpC.seq ?_); obtain ⟨r6, hr6, H⟩ := bindS H
   apply ldT ⟨[e0 0 _, e0 3 _, e0 5 _, ed 7 17 _, ed 23 1 _, ed 24 2 _, ed 25 3 _, ed 26 4 _, ed 27 5 _, ed 28 6 _, ed 29 7 _, ed 30 8 _, ed 31 9 _, ed 32 10 _, ed 33 11 _, ed 34 12 _, ed 35 13 _, ed 36 14 _, ed 37 15 _, ed 38 16 _], [e0 30 _, e0 31 _, e0 32 _, e0 33 _, e0 37 _, e0 38 _, e0 39 _, e0 40 _, e0 41 _, e0 42 _, e0 43 _, e0 44 _, e0 45 _], [e0 0 _, e0 27 _, (60, [(18, some _), (17, some _)])], 61, []⟩ [(0, 163854), (1, 163852), (3, 163848), (7, 163840), (0, 163872), (16, 163840), (0, 164736), (64, 164608), (192, 164352), (448, 163840), (0, 178176), (1024, 176128), (3072, 172032), (7168, 163840), (0, 163840), (32767, 131072), (0, 131072), (131071, 0)] mixed ?L1 ?_
   case L1 =>
    repeat refine ls ?_
    apply lc 61 47 13 [38] [] [] ?h1_15 ?q1_15 ?_
    case h1_15 =>
     intro b; refine ca [false, false, false, false, false] [30, 31, 32, 33] [] 61 ent188 (g188 k false false false false o0.Config a1.A o0.Now o0.Fresh r1.1 r6 hr6) ?_; exact L.nil ⟨rfl, rfl, rfl, rfl⟩
    case' q1_15 => skip
    apply lc 61 60 1 [7] [] [60] ?h1_16 ?q1_16 ?_
    case h1_16 =>
     intro b; refine alc 61 info199 ?_; exact L.nil ⟨rfl, rfl, rfl, rfl⟩
    case' q1_16 => skip
    refine lb ?_; exact trivial
    all_goals exact lq
   refine WpC.seq (sr ?_); refine go 4 ?_; refine sH H (fun hc H => ?_) (fun hc H => ?_)
   ·refine gn 14 ?_; refine cT ?_; refine sg 1 ?_; cases H; exact WpC.ret rt
   ·refine mv ?_; refine L.nilCheck hF rfl rfl rfl rfl ?_; refine go 2 ?_; refine L.lenR (xs := o0.Log) (e := eT_Event) underlying40 hF rfl rfl rfl rfl ?_; refine go 3 ?_; refine sH H (fun hc H => ?_) (fun hc H => ?_)
    ·refine gn 6 ?_; refine cT ?_; refine sg 1 ?_; cases H; exact WpC.ret rt
    ·refine go 3 ?_; obtain ⟨r10, hr10, H⟩ := bindS H; refine ca [false, false] [] [0] 61 ent184 (g184 k  r6.Term o0 r10 hr10) ?_; refine gn 2 ?_; refine cd H (fun hc H => ?_) (fun hc H => ?_)
     ·refine sg 1 ?_; cases H; exact WpC.ret rt
     ·refine WpC.skip (WpC.seq ?_); obtain ⟨h11, H⟩ := condG H
      apply ldT ⟨[e0 0 _, e0 7 _, ed 57 1 _, ed 58 2 _, ed 59 3 _, ed 60 4 _, ed 61 5 _, ed 62 6 _, ed 63 7 _, ed 64 8 _, ed 65 9 _, ed 66 10 _, ed 67 11 _], [e0 62 _, e0 63 _, e0 64 _, e0 65 _, e0 69 _, e0 70 _, e0 71 _, e0 72 _, e0 73 _, e0 74 _, (75, [(9, none), (0, some _)]), e0 76 _, e0 77 _, ed 78 8 _, ed 79 9 _], [(0, [(12, some _), (0, some _)]), e0 60 _], 80, []⟩ [(0, 3584), (0, 3868), (2, 3864), (6, 3856), (14, 3840), (0, 4032), (32, 3968), (96, 3840), (254, 3584), (511, 3072), (1023, 2048), (2047, 0)] mixed ?L2 ?_
      case L2 =>
       repeat refine ls ?_
       apply lc 80 78 1 [64] [78] [] ?h2_7 ?q2_7 ?_
       case h2_7 =>
        intro b; refine L.buildSlice (e := eT_Event) 80 ([r6.Event] : List T_Event) underlying40 info47 rfl rfl rfl hF rfl rfl rfl rfl rfl rfl rfl rfl ?_; exact L.nil ⟨rfl, rfl, rfl, rfl⟩
       case' q2_7 => skip
       apply lc 80 79 1 [65] [79] [] ?h2_8 ?q2_8 ?_
       case h2_8 =>
        intro b; refine L.append (xs := r10.2.Log) (ys := ([r6.Event] : List T_Event)) (e := eT_Event) 80 underlying40 info47 rfl rfl hF rfl rfl rfl rfl rfl rfl rfl rfl (fun _ => rfl) (fun _ _ h1 h2 => by cases h1; cases h2; rfl) ⟨_, underlying40⟩ (of_decide_eq_true h11) rfl rfl ?_; exact L.nil ⟨rfl, rfl, rfl, rfl⟩
       case' q2_8 => skip
       repeat refine ls ?_
       refine lb ?_; exact trivial
       all_goals exact lq
      refine sg 1 ?_; cases H; exact WpC.ret rt
/-! ### I_ReadGrant -/
def I_ReadGrant (k : Nat) (a0 : List UInt8) (a1 : Int) : Option (T_Grant × Bool) := (I_Open k a0 a1).bind fun r1 => (I_Parts k r1.1).bind fun r2 => cond ((r2.1.length : Int) != 3) (some ((⟨0, 0, 0, (⟨0, 0, 0⟩ : T_Rest)⟩ : T_Grant), false)) ((at? r2.1 1).bind fun b3 => (I_ReadNums k b3).bind fun r4 => cond ((r4.1.length : Int) != 2) (some ((⟨0, 0, 0, (⟨0, 0, 0⟩ : T_Rest)⟩ : T_Grant), false)) ((at? r4.1 0).bind fun b5 => (at? r4.1 1).bind fun b6 => (at? r2.1 0).bind fun b7 => (I_ReadKey k b7).bind fun r8 => (at? r2.1 2).bind fun b9 => (I_ReadRest k b9).bind fun r10 => (I_ShowGrant k (⟨r8.1, b5, b6, r10.1⟩ : T_Grant) a1).bind fun r12 => cond (r12 != a0) (some ((⟨0, 0, 0, (⟨0, 0, 0⟩ : T_Rest)⟩ : T_Grant), false)) (some ((⟨r8.1, b5, b6, r10.1⟩ : T_Grant), true))))
theorem ent227 : MG.Enters Tryz.prog 227 := en func227
theorem g227 (k : Nat) (a0 : List UInt8) (a1 : Int) (r : T_Grant × Bool) (H : I_ReadGrant k a0 a1 = some r) : Gives Tryz.prog 227 [V.one (cS a0), V.one (cI a1)] [] [V.agg (bT_Grant r.1), V.one (cL r.2)] [] := by
 refine Gives.intro func227 rfl rfl rfl rfl ?_; refine fx fun w0 T S0 ob oh hm => ?_
 have hF := fxe w0 T S0 69 ob oh
 unfold I_ReadGrant at H; obtain ⟨K, hK⟩ := leK k; refine sr ?_; refine alc 2 info231 ?_; refine gn 1 ?_; refine sy 2 ?_; refine cB 3 ent244 (g244 k  a0 a1) H fun r1 H => ?_; refine gn 5 ?_; refine sy 1 ?_; refine cB 5 ent146 (g146 k  r1.1) H fun r2 H => ?_; refine gn 5 ?_; refine WpC.seq (sr ?_); refine mv ?_; refine L.lenR (xs := r2.1) (e := eS) underlying34 hF rfl rfl rfl rfl ?_; refine gn 1 ?_; refine cd H (fun hc H => ?_) (fun hc H => ?_)
 ·refine sr ?_; refine bf built231 ?_; refine gn 2 ?_; cases H; exact WpC.ret rt
 ·refine WpC.skip (sr ?_); refine mv ?_; obtain ⟨b3, hb3, H⟩ := bindS H; refine ix underlying34 info9 hb3 ?_; refine L.loadEp (xs := r2.1) (e := eS) shape9 hF rfl rfl rfl rfl (at?_get hb3).2 rfl rfl ?_; refine cB 7 ent224 (g224 k  b3) H fun r4 H => ?_; refine gn 5 ?_; refine WpC.seq (sr ?_); refine mv ?_; refine L.lenR (xs := r4.1) (e := eI) underlying24 hF rfl rfl rfl rfl ?_; refine gn 1 ?_; refine cd H (fun hc H => ?_) (fun hc H => ?_)
  ·refine sr ?_; refine bf built231 ?_; refine gn 2 ?_; cases H; exact WpC.ret rt
  ·refine WpC.skip (WpC.seq ?_); obtain ⟨b5, hb5, H⟩ := bindS H; obtain ⟨b6, hb6, H⟩ := bindS H
   apply ldT ⟨[e0 0 _, e0 1 _, e0 4 _, e0 8 _, e0 10 _, ed 12 8 _, ed 39 1 _, ed 40 2 _, ed 41 3 _, ed 42 4 _, ed 43 5 _, ed 44 6 _, ed 45 7 _], [e0 5 _, e0 7 _], [e0 2 _, (9, [(9, some _), (8, some _)])], 10, []⟩ [(0, 326), (1, 324), (3, 320), (0, 368), (8, 352), (24, 320), (63, 256), (0, 256), (255, 0)] mixed ?L1 ?_
   case L1 =>
    repeat refine ls ?_
    apply lc 10 9 0 [40] [] [] ?h1_1 ?q1_1 ?_
    case h1_1 =>
     intro b; refine ix underlying24 info3 hb5 ?_; exact L.nil ⟨rfl, rfl, rfl, rfl⟩
    case' q1_1 => skip
    apply lc 10 9 0 [41] [] [] ?h1_2 ?q1_2 ?_
    case h1_2 =>
     intro b; refine L.loadEp (xs := r4.1) (e := eI) shape3 hF rfl rfl rfl rfl (at?_get hb5).2 rfl rfl ?_; exact L.nil ⟨rfl, rfl, rfl, rfl⟩
    case' q1_2 => skip
    repeat refine ls ?_
    apply lc 10 9 0 [43] [] [] ?h1_4 ?q1_4 ?_
    case h1_4 =>
     intro b; refine ix underlying24 info3 hb6 ?_; exact L.nil ⟨rfl, rfl, rfl, rfl⟩
    case' q1_4 => skip
    apply lc 10 9 0 [44] [] [] ?h1_5 ?q1_5 ?_
    case h1_5 =>
     intro b; refine L.loadEp (xs := r4.1) (e := eI) shape3 hF rfl rfl rfl rfl (at?_get hb6).2 rfl rfl ?_; exact L.nil ⟨rfl, rfl, rfl, rfl⟩
    case' q1_5 => skip
    apply lc 10 9 0 [45] [] [] ?h1_6 ?q1_6 ?_
    case h1_6 =>
     intro b; refine bf built231 ?_; exact L.nil ⟨rfl, rfl, rfl, rfl⟩
    case' q1_6 => skip
    apply lc 10 9 1 [12] [] [9] ?h1_7 ?q1_7 ?_
    case h1_7 =>
     intro b; refine alc 10 info231 ?_; exact L.nil ⟨rfl, rfl, rfl, rfl⟩
    case' q1_7 => skip
    refine lb ?_; exact trivial
    all_goals exact lq
   refine sy 1 ?_; obtain ⟨b7, hb7, H⟩ := bindS H; refine ix underlying34 info9 hb7 ?_; refine L.loadEp (xs := r2.1) (e := eS) shape9 hF rfl rfl rfl rfl (at?_get hb7).2 rfl rfl ?_; refine cB 10 ent145 (g145 k  b7) H fun r8 H => ?_; refine gn 5 ?_; refine sy 1 ?_; obtain ⟨b9, hb9, H⟩ := bindS H; refine ix underlying34 info9 hb9 ?_; refine L.loadEp (xs := r2.1) (e := eS) shape9 hF rfl rfl rfl rfl (at?_get hb9).2 rfl rfl ?_; refine cB 12 ent247 (g247 k  b9) H fun r10 H => ?_; refine gn 5 ?_; refine WpC.seq (sr ?_); refine go 2 ?_; refine cB 16 ent252 (g252 k  (⟨r8.1, b5, b6, r10.1⟩ : T_Grant) a1) H fun r12 H => ?_; refine mv ?_; refine L.binS hF rfl rfl rfl rfl rfl (L.nil ?_); refine cd H (fun hc H => ?_) (fun hc H => ?_)
   ·refine sr ?_; refine bf built231 ?_; refine gn 2 ?_; cases H; exact WpC.ret rt
   ·refine WpC.skip (sr ?_); refine gn 3 ?_; cases H; exact WpC.ret rt
/-! ### I_TakeReply -/
def I_TakeReply.j4 (k : Nat) (v35 v36 : Int) (v37 : List (List UInt8)) (v38 : Bool) (v39 : T_Grant) : Option (T_Cred × Bool) := cond v38 (some ((⟨0, 0, 0, 0, (⟨0, 0, 0⟩ : T_Rest), ([] : List UInt8)⟩ : T_Cred), false)) ((at? v37 1).bind fun b40 => some ((⟨v35, v36, v39.Service, v39.Key, v39.Rest, b40⟩ : T_Cred), true))
def I_TakeReply.j2 (k : Nat) (v14 v15 v16 v17 : Int) (v18 : List (List UInt8)) (v19 : Bool) : Option (T_Cred × Bool) := cond v19 (some ((⟨0, 0, 0, 0, (⟨0, 0, 0⟩ : T_Rest), ([] : List UInt8)⟩ : T_Cred), false)) ((at? v18 0).bind fun b20 => (I_ReadNums k b20).bind fun r21 => (at? v18 2).bind fun b22 => (I_ReadGrant k b22 v16).bind fun r23 => cond ((r21.1.length : Int) != 2) (I_TakeReply.j4 k v14 v15 v18 true r23.1) ((at? r21.1 0).bind fun b41 => cond (b41 != 3) (I_TakeReply.j4 k v14 v15 v18 true r23.1) ((at? r21.1 1).bind fun b42 => cond (b42 != v17) (I_TakeReply.j4 k v14 v15 v18 true r23.1) (cond (!r23.2) (I_TakeReply.j4 k v14 v15 v18 true r23.1) (I_TakeReply.j4 k v14 v15 v18 (r23.1.Nonce != v17) r23.1)))))
def I_TakeReply (k : Nat) (a0 a1 a2 a3 : Int) (a4 : List UInt8) : Option (T_Cred × Bool) := (I_Parts k a4).bind fun r1 => (I_isPrincipal k a0).bind fun r43 => cond (!r43) (I_TakeReply.j2 k a0 a1 a2 a3 r1.1 true) ((I_isPrincipal k a1).bind fun r44 => cond (!r44) (I_TakeReply.j2 k a0 a1 a2 a3 r1.1 true) (I_TakeReply.j2 k a0 a1 a2 a3 r1.1 ((r1.1.length : Int) != 3)))
theorem ent189 : MG.Enters Tryz.prog 189 := en func189
theorem g189 (k : Nat) (a0 a1 a2 a3 : Int) (a4 : List UInt8) (r : T_Cred × Bool) (H : I_TakeReply k a0 a1 a2 a3 a4 = some r) : Gives Tryz.prog 189 [V.one (cI a0), V.one (cI a1), V.one (cI a2), V.one (cI a3), V.one (cS a4)] [] [V.agg (bT_Cred r.1), V.one (cL r.2)] [] := by
 refine Gives.intro func189 rfl rfl rfl rfl ?_; refine fx fun w0 T S0 ob oh hm => ?_
 have hF := fxe w0 T S0 91 ob oh
 unfold I_TakeReply at H; obtain ⟨K, hK⟩ := leK k; refine sr ?_; refine alc 5 info146 ?_; refine gn 1 ?_; refine sy 1 ?_; refine cB 6 ent146 (g146 k  a4) H fun r1 H => ?_; refine gn 5 ?_; refine WpC.seq ?_; refine WpC.join (fun σ => ∃ (kj2 : Nat) (v14 v15 v16 v17 : Int) (v18 : List (List UInt8)) (v19 : Bool), kj2 ≤ K ∧ I_TakeReply.j2 kj2 v14 v15 v16 v17 v18 v19 = some r ∧ σ = mkSt [(0, oI v14), (1, oI v15), (2, oI v16), (3, oI v17), (10, oP 0 0), (12, MG.one (Cell.own 1)), (35, oL v19)] [(1, ⟨1, List.map eS v18⟩)] [(0, zc3)] 2) ?_ ?_
 ·rintro _ ⟨kj2, v14, v15, v16, v17, v18, v19, hkj2, H, rfl⟩
  unfold I_TakeReply.j2 at H; refine cd H (fun hc H => ?_) (fun hc H => ?_)
  ·refine sr ?_; refine bf built146 ?_; refine gn 2 ?_; cases H; exact WpC.ret rt
  ·refine WpC.skip (sr ?_); refine mv ?_; obtain ⟨b20, hb20, H⟩ := bindS H; refine ix underlying34 info9 hb20 ?_; refine L.loadEp (xs := v18) (e := eS) shape9 hF rfl rfl rfl rfl (at?_get hb20).2 rfl rfl ?_; refine cB 2 ent224 (g224 kj2  b20) H fun r21 H => ?_; refine gn 5 ?_; refine sy 1 ?_; obtain ⟨b22, hb22, H⟩ := bindS H; refine ix underlying34 info9 hb22 ?_; refine L.loadEp (xs := v18) (e := eS) shape9 hF rfl rfl rfl rfl (at?_get hb22).2 rfl rfl ?_; refine mv ?_; refine cB 4 ent227 (g227 kj2  b22 v16) H fun r23 H => ?_; refine go 3 ?_; refine alc 11 info231 ?_; refine gn 2 ?_; refine WpC.seq ?_; refine WpC.join (fun σ => ∃ (kj4 : Nat) (v35 v36 : Int) (v37 : List (List UInt8)) (v38 : Bool) (v39 : T_Grant), kj4 ≤ K ∧ I_TakeReply.j4 kj4 v35 v36 v37 v38 v39 = some r ∧ σ = mkSt [(0, oI v35), (1, oI v36), (10, oP 0 0), (12, MG.one (Cell.own 1)), (16, oP 2 0), (77, oL v38)] [(1, ⟨1, List.map eS v37⟩)] [(0, zc3), (2, (bT_Grant v39))] 3) ?_ ?_
   ·rintro _ ⟨kj4, v35, v36, v37, v38, v39, hkj4, H, rfl⟩
    unfold I_TakeReply.j4 at H; refine cd H (fun hc H => ?_) (fun hc H => ?_)
    ·refine sr ?_; refine bf built146 ?_; refine gn 2 ?_; cases H; exact WpC.ret rt
    ·refine WpC.skip (WpC.seq ?_); obtain ⟨b40, hb40, H⟩ := bindS H
     apply ldT ⟨[e0 0 _, e0 1 _, e0 10 _, ed 11 14 _, e0 12 _, e0 16 _, ed 79 1 _, ed 80 2 _, ed 81 3 _, ed 82 4 _, ed 83 5 _, ed 84 6 _, ed 85 7 _, ed 86 8 _, ed 87 9 _, ed 88 10 _, ed 89 11 _, ed 90 12 _], [e0 1 _], [(0, [(13, some _), (0, some _)]), e0 2 _], 3, []⟩ [(0, 14336), (0, 14336), (0, 14344), (4, 14336), (0, 14368), (16, 14336), (0, 14464), (64, 14336), (0, 15872), (256, 15360), (768, 14336), (2047, 12288), (4095, 8192), (8191, 0)] mixed ?L1 ?_
     case L1 =>
      repeat refine ls ?_
      apply lc 3 3 0 [88] [] [] ?h1_9 ?q1_9 ?_
      case h1_9 =>
       intro b; refine ix underlying34 info9 hb40 ?_; exact L.nil ⟨rfl, rfl, rfl, rfl⟩
      case' q1_9 => skip
      apply lc 3 3 0 [89] [] [] ?h1_10 ?q1_10 ?_
      case h1_10 =>
       intro b; refine L.loadEp (xs := v37) (e := eS) shape9 hF rfl rfl rfl rfl (at?_get hb40).2 rfl rfl ?_; exact L.nil ⟨rfl, rfl, rfl, rfl⟩
      case' q1_10 => skip
      apply lc 3 3 0 [90] [] [] ?h1_11 ?q1_11 ?_
      case h1_11 =>
       intro b; refine bf built146 ?_; exact L.nil ⟨rfl, rfl, rfl, rfl⟩
      case' q1_11 => skip
      refine lb ?_
      repeat refine ls ?_
      exact trivial
      all_goals exact lq
     cases H; exact WpC.ret rt
   ·refine WpC.regionL ?_; refine mv ?_; refine L.lenR (xs := r21.1) (e := eI) underlying24 hF rfl rfl rfl rfl ?_; refine go 2 ?_; refine sH H (fun hc H => ?_) (fun hc H => ?_)
    ·refine gn 22 ?_; exact ⟨_, ⟨kj2, v14, v15, v18, true, r23.1, by omega, H, rfl⟩, lm [(0, 0), (1, 1), (2, 11)] hm⟩
    ·refine mv ?_; obtain ⟨b41, hb41, H⟩ := bindS H; refine ix underlying24 info3 hb41 ?_; refine L.loadEp (xs := r21.1) (e := eI) shape3 hF rfl rfl rfl rfl (at?_get hb41).2 rfl rfl ?_; refine go 3 ?_; refine sH H (fun hc H => ?_) (fun hc H => ?_)
     ·refine gn 16 ?_; exact ⟨_, ⟨kj2, v14, v15, v18, true, r23.1, by omega, H, rfl⟩, lm [(0, 0), (1, 1), (2, 11)] hm⟩
     ·refine mv ?_; obtain ⟨b42, hb42, H⟩ := bindS H; refine ix underlying24 info3 hb42 ?_; refine L.loadEp (xs := r21.1) (e := eI) shape3 hF rfl rfl rfl rfl (at?_get hb42).2 rfl rfl ?_; refine go 4 ?_; refine sH H (fun hc H => ?_) (fun hc H => ?_)
      ·refine gn 9 ?_; exact ⟨_, ⟨kj2, v14, v15, v18, true, r23.1, by omega, H, rfl⟩, lm [(0, 0), (1, 1), (2, 11)] hm⟩
      ·refine go 4 ?_; refine sH H (fun hc H => ?_) (fun hc H => ?_)
       ·refine gn 5 ?_; exact ⟨_, ⟨kj2, v14, v15, v18, true, r23.1, by omega, H, rfl⟩, lm [(0, 0), (1, 1), (2, 11)] hm⟩
       ·refine gn 5 ?_; exact ⟨_, ⟨kj2, v14, v15, v18, (r23.1.Nonce != v17), r23.1, by omega, H, rfl⟩, lm [(0, 0), (1, 1), (2, 11)] hm⟩
 ·refine WpC.regionL ?_; refine mv ?_; refine cB 8 ent53 (g53 k  a0) H fun r43 H => ?_; refine go 2 ?_; refine sH H (fun hc H => ?_) (fun hc H => ?_)
  ·refine gn 9 ?_; exact ⟨_, ⟨k, a0, a1, a2, a3, r1.1, true, by omega, H, rfl⟩, lm [(0, 5), (1, 6)] hm⟩
  ·refine mv ?_; refine cB 9 ent53 (g53 k  a1) H fun r44 H => ?_; refine go 3 ?_; refine sH H (fun hc H => ?_) (fun hc H => ?_)
   ·refine gn 4 ?_; exact ⟨_, ⟨k, a0, a1, a2, a3, r1.1, true, by omega, H, rfl⟩, lm [(0, 5), (1, 6)] hm⟩
   ·refine mv ?_; refine L.lenR (xs := r1.1) (e := eS) underlying34 hF rfl rfl rfl rfl ?_; refine gn 2 ?_; exact ⟨_, ⟨k, a0, a1, a2, a3, r1.1, ((r1.1.length : Int) != 3), by omega, H, rfl⟩, lm [(0, 5), (1, 6)] hm⟩
/-! ### I_World_reply -/
def I_World_reply (k : Nat) (a1 : T_Act) (o0 : T_World) : Option (Int × T_World) := (I_World_message k a1.B o0).bind fun r1 => (I_isPrincipal k a1.A).bind fun r5 => cond (!r5) (some (2, o0)) (cond (!r1.2) (some (2, o0)) ((at? o0.Waits a1.A).bind fun b6 => (I_TakeReply k a1.A b6.Client b6.Key b6.Nonce r1.1).bind fun r7 => cond (!b6.On) (some (3, o0)) (cond (!r7.2) (some (3, o0)) (cond ((o0.Creds.length : Int) == 30) (some (3, o0)) (cond (decide ((2 * (o0.Creds.length + ([r7.1] : List T_Cred).length) + 192) * 72 ≤ 281474976710656)) ((at? o0.Waits a1.A).bind fun b9 => some (0, (⟨o0.Config, o0.Now, o0.Fresh, o0.Net, o0.Known, (o0.Waits.set a1.A.toNat (⟨false, 0, 0, 0⟩ : T_Wait)), (o0.Creds ++ ([r7.1] : List T_Cred)), o0.Caches, o0.Log, o0.Accepts, o0.Leaked⟩ : T_World))) none)))))
theorem ent137 : MG.Enters Tryz.prog 137 := en func137
theorem g137 (k : Nat) (a1 : T_Act) (o0 : T_World) (r : Int × T_World) (H : I_World_reply k a1 o0 = some r) : Gives Tryz.prog 137 [V.one (Cell.ptr 0 0), V.agg (bT_Act a1)] [[Cell.ow 1 (List.map eI o0.Config.UserRealm), Cell.ow 1 (List.map eI o0.Config.ServiceRealm), Cell.ow 2 (List.map eT_Pair o0.Config.Links), Cell.ow 2 (List.map eT_Pair o0.Config.Proxy), cI o0.Config.Skew, cI o0.Now, cI o0.Fresh, Cell.ow 1 (List.map eS o0.Net), Cell.ow 1 (List.map eS o0.Known.Terms), Cell.ow 1 (List.map eI o0.Known.Keys), Cell.ow 4 (List.map eT_Wait o0.Waits), Cell.ow 8 (List.map eT_Cred o0.Creds), Cell.ow 2 (List.map eT_Cache o0.Caches), Cell.ow 11 (List.map eT_Event o0.Log), Cell.ow 15 (List.map eT_Accept o0.Accepts), Cell.ow 1 (List.map eI o0.Leaked)]] [V.one (cI r.1)] [[Cell.ow 1 (List.map eI r.2.Config.UserRealm), Cell.ow 1 (List.map eI r.2.Config.ServiceRealm), Cell.ow 2 (List.map eT_Pair r.2.Config.Links), Cell.ow 2 (List.map eT_Pair r.2.Config.Proxy), cI r.2.Config.Skew, cI r.2.Now, cI r.2.Fresh, Cell.ow 1 (List.map eS r.2.Net), Cell.ow 1 (List.map eS r.2.Known.Terms), Cell.ow 1 (List.map eI r.2.Known.Keys), Cell.ow 4 (List.map eT_Wait r.2.Waits), Cell.ow 8 (List.map eT_Cred r.2.Creds), Cell.ow 2 (List.map eT_Cache r.2.Caches), Cell.ow 11 (List.map eT_Event r.2.Log), Cell.ow 15 (List.map eT_Accept r.2.Accepts), Cell.ow 1 (List.map eI r.2.Leaked)]] := by
 refine Gives.intro func137 rfl rfl rfl rfl ?_; refine fx fun w0 T S0 ob oh hm => ?_
 have hF := fxe w0 T S0 79 ob oh
 unfold I_World_reply at H; obtain ⟨K, hK⟩ := leK k; refine sr ?_; refine bo 27 ?_; refine gn 1 ?_; refine sy 3 ?_; obtain ⟨r1, hr1, H⟩ := bindS H; refine ca [false, false] [] [0] 28 ent180 (g180 k  a1.B o0 r1 hr1) ?_; refine gn 5 ?_; refine WpC.seq (sr ?_); refine go 2 ?_; refine cB 46 ent53 (g53 k  a1.A) H fun r5 H => ?_; refine go 2 ?_; refine sH H (fun hc H => ?_) (fun hc H => ?_)
 ·refine gn 3 ?_; refine cT ?_; refine sg 1 ?_; cases H; exact WpC.ret rt
 ·refine gn 3 ?_; refine cd H (fun hc H => ?_) (fun hc H => ?_)
  ·refine sg 1 ?_; cases H; exact WpC.ret rt
  ·refine WpC.skip (WpC.seq ?_); obtain ⟨b6, hb6, H⟩ := bindS H
   apply ldT ⟨[e0 0 _, e0 3 _, e0 5 _, ed 7 9 _, ed 25 1 _, ed 26 2 _, ed 27 3 _, ed 28 4 _, ed 29 5 _, ed 30 6 _, ed 31 7 _, ed 32 8 _], [e0 30 _, e0 31 _, e0 32 _, e0 33 _, e0 37 _, e0 38 _, e0 39 _, e0 40 _, e0 41 _, e0 42 _, e0 43 _, e0 44 _, e0 45 _], [e0 0 _, e0 27 _, (47, [(10, some _), (9, some _)])], 48, []⟩ [(0, 718), (1, 716), (3, 712), (7, 704), (0, 736), (16, 704), (63, 640), (127, 512), (0, 512), (511, 0)] mixed ?L1 ?_
   case L1 =>
    repeat refine ls ?_
    apply lc 48 47 0 [31] [] [] ?h1_6 ?q1_6 ?_
    case h1_6 =>
     intro b; refine ix underlying37 info143 hb6 ?_; exact L.nil ⟨rfl, rfl, rfl, rfl⟩
    case' q1_6 => skip
    apply lc 48 47 0 [32] [] [] ?h1_7 ?q1_7 ?_
    case h1_7 =>
     intro b; refine L.loadEp (xs := o0.Waits) (e := eT_Wait) shape143 hF rfl rfl rfl rfl (at?_get hb6).2 rfl rfl ?_; exact L.nil ⟨rfl, rfl, rfl, rfl⟩
    case' q1_7 => skip
    apply lc 48 47 1 [7] [] [47] ?h1_8 ?q1_8 ?_
    case h1_8 =>
     intro b; refine alc 48 info143 ?_; exact L.nil ⟨rfl, rfl, rfl, rfl⟩
    case' q1_8 => skip
    refine lb ?_; exact trivial
    all_goals exact lq
   refine sy 9 ?_; refine cB 48 ent189 (g189 k  a1.A b6.Client b6.Key b6.Nonce r1.1) H fun r7 H => ?_; refine go 3 ?_; refine alc 57 info146 ?_; refine gn 2 ?_; refine WpC.seq (sr ?_); refine go 4 ?_; refine sH H (fun hc H => ?_) (fun hc H => ?_)
   ·refine gn 11 ?_; refine cT ?_; refine sg 1 ?_; cases H; exact WpC.ret rt
   ·refine go 4 ?_; refine sH H (fun hc H => ?_) (fun hc H => ?_)
    ·refine gn 7 ?_; refine cT ?_; refine sg 1 ?_; cases H; exact WpC.ret rt
    ·refine mv ?_; refine L.nilCheck hF rfl rfl rfl rfl ?_; refine go 2 ?_; refine L.lenR (xs := o0.Creds) (e := eT_Cred) underlying38 hF rfl rfl rfl rfl ?_; refine gn 2 ?_; refine cd H (fun hc H => ?_) (fun hc H => ?_)
     ·refine sg 1 ?_; cases H; exact WpC.ret rt
     ·refine WpC.skip (WpC.seq ?_); obtain ⟨h8, H⟩ := condG H
      apply ldT ⟨[e0 0 _, e0 3 _, e0 8 _, ed 61 1 _, ed 62 2 _, ed 63 3 _, ed 64 4 _, ed 65 5 _, ed 66 6 _, ed 67 7 _, ed 68 8 _, ed 69 9 _, ed 70 10 _], [e0 30 _, e0 31 _, e0 32 _, e0 33 _, e0 37 _, e0 38 _, e0 39 _, e0 40 _, (41, [(8, none), (0, some _)]), e0 42 _, e0 43 _, e0 44 _, e0 45 _, ed 58 7 _, ed 59 8 _], [(0, [(11, some _), (0, some _)]), e0 27 _, e0 57 _], 60, []⟩ [(0, 1792), (0, 1948), (2, 1944), (6, 1936), (14, 1920), (0, 1984), (32, 1920), (126, 1792), (255, 1536), (511, 1024), (1023, 0)] mixed ?L2 ?_
      case L2 =>
       repeat refine ls ?_
       apply lc 60 58 1 [67] [58] [] ?h2_6 ?q2_6 ?_
       case h2_6 =>
        intro b; refine L.buildSlice (e := eT_Cred) 60 ([r7.1] : List T_Cred) underlying38 info146 rfl rfl rfl hF rfl rfl rfl rfl rfl rfl rfl rfl ?_; exact L.nil ⟨rfl, rfl, rfl, rfl⟩
       case' q2_6 => skip
       apply lc 60 59 1 [68] [59] [] ?h2_7 ?q2_7 ?_
       case h2_7 =>
        intro b; refine L.append (xs := o0.Creds) (ys := ([r7.1] : List T_Cred)) (e := eT_Cred) 60 underlying38 info146 rfl rfl hF rfl rfl rfl rfl rfl rfl rfl rfl (fun _ => rfl) (fun _ _ h1 h2 => by cases h1; cases h2; rfl) ⟨_, underlying38⟩ (of_decide_eq_true h8) rfl rfl ?_; exact L.nil ⟨rfl, rfl, rfl, rfl⟩
       case' q2_7 => skip
       repeat refine ls ?_
       refine lb ?_; exact trivial
       all_goals exact lq
      refine WpC.seq ?_; obtain ⟨b9, hb9, H⟩ := bindS H
      apply ldT ⟨[e0 0 _, e0 3 _, ed 71 1 _, ed 72 2 _, ed 73 3 _, ed 74 4 _, ed 75 5 _, ed 76 6 _, ed 77 7 _, ed 78 8 _], [e0 30 _, e0 31 _, e0 32 _, e0 33 _, e0 37 _, e0 38 _, e0 39 _, (40, [(9, some _), (0, some _)]), e0 42 _, e0 43 _, e0 44 _, e0 45 _, e0 59 _], [e0 0 _, e0 27 _], 60, []⟩ [(0, 398), (1, 396), (3, 392), (7, 384), (0, 416), (16, 384), (0, 384), (127, 256), (255, 0)] mixed ?L3 ?_
      case L3 =>
       repeat refine ls ?_
       apply lc 60 60 0 [77] [] [] ?h3_6 ?q3_6 ?_
       case h3_6 =>
        intro b; refine bf built143 ?_; exact L.nil ⟨rfl, rfl, rfl, rfl⟩
       case' q3_6 => skip
       apply lc 60 60 0 [78] [] [] ?h3_7 ?q3_7 ?_
       case h3_7 =>
        intro b; refine ix underlying37 info143 hb9 ?_; exact L.nil ⟨rfl, rfl, rfl, rfl⟩
       case' q3_7 => skip
       apply lc 60 60 0 [] [40] [] ?h3_8 ?q3_8 ?_
       case h3_8 =>
        intro b; refine L.storeEp (xs := o0.Waits) (e := eT_Wait) (a' := (⟨false, 0, 0, 0⟩ : T_Wait)) shape143 hF rfl rfl rfl rfl rfl rfl rfl (at?_get hb9).2 rfl rfl ?_; exact L.nil ⟨rfl, rfl, rfl, rfl⟩
       case' q3_8 => skip
       exact trivial
       all_goals exact lq
      refine sg 1 ?_; cases H; exact WpC.ret rt
/-! ### I_ApplyReq -/
def I_ApplyReq (k : Nat) (a0 : T_Cred) (a1 : T_Auth) (a2 : Int) : Option (List UInt8) := (I_CredOk k a0).bind fun r2 => cond (!r2) (some ([] : List UInt8)) ((I_Nums k ([4, a0.Service, a2] : List Int)).bind fun r3 => (I_ShowAuth k a1 a0.Key).bind fun r4 => (I_List k ([r3, a0.Ticket, r4] : List (List UInt8))).bind fun r5 => some r5)
theorem ent190 : MG.Enters Tryz.prog 190 := en func190
theorem g190 (k : Nat) (a0 : T_Cred) (a1 : T_Auth) (a2 : Int) (r : List UInt8) (H : I_ApplyReq k a0 a1 a2 = some r) : Gives Tryz.prog 190 [V.agg (bT_Cred a0), V.agg (bT_Auth a1), V.one (cI a2)] [] [V.one (cS r)] [] := by
 refine Gives.intro func190 rfl rfl rfl rfl ?_; refine fx fun w0 T S0 ob oh hm => ?_
 have hF := fxe w0 T S0 23 ob oh
 unfold I_ApplyReq at H; obtain ⟨K, hK⟩ := leK k; refine sr ?_; refine bo 12 ?_; refine bo 13 ?_; refine gn 1 ?_; refine WpC.seq (sr ?_); refine lp shape146 ?_; refine cB 14 ent109 (g109 k  a0) H fun r2 H => ?_; refine gn 1 ?_; refine cd H (fun hc H => ?_) (fun hc H => ?_)
 ·refine sg 1 ?_; cases H; exact WpC.ret rt
 ·refine WpC.skip (WpC.seq ?_); obtain ⟨r3, hr3, H⟩ := bindS H; obtain ⟨r4, hr4, H⟩ := bindS H; obtain ⟨r5, hr5, H⟩ := bindS H
  apply ldT ⟨[e0 2 _, e0 3 _, e0 4 _, (6, [(14, some _), (0, some _)]), ed 10 1 _, ed 11 2 _, ed 12 3 _, ed 13 4 _, ed 14 5 _, ed 15 6 _, ed 16 7 _, ed 17 8 _, ed 18 9 _, ed 19 10 _, ed 20 11 _, ed 21 12 _, ed 22 13 _], [ed 15 4 _, ed 18 12 _], [e0 12 _, e0 13 _], 20, []⟩ [(0, 15386), (1, 15384), (0, 15384), (7, 15376), (15, 15360), (0, 14400), (32, 14336), (0, 15360), (0, 15872), (256, 15360), (927, 14336), (2047, 12288), (4095, 8192), (8191, 0)] mixed ?L1 ?_
  case L1 =>
   repeat refine ls ?_
   apply lc 20 15 1 [13] [15] [] ?h1_3 ?q1_3 ?_
   case h1_3 =>
    intro b; refine L.buildSlice (e := eI) 20 ([4, a0.Service, a2] : List Int) underlying24 info3 rfl rfl rfl hF rfl rfl rfl rfl rfl rfl rfl rfl ?_; exact L.nil ⟨rfl, rfl, rfl, rfl⟩
   case' q1_3 => skip
   apply lc 20 16 1 [14] [] [] ?h1_4 ?q1_4 ?_
   case h1_4 =>
    intro b; refine ca [false] [15] [] 20 ent219 (g219 k false ([4, a0.Service, a2] : List Int) r3 hr3) ?_; exact L.nil ⟨rfl, rfl, rfl, rfl⟩
   case' q1_4 => skip
   repeat refine ls ?_
   apply lc 20 17 1 [20] [] [] ?h1_10 ?q1_10 ?_
   case h1_10 =>
    intro b; refine c0 20 ent222 (g222 k  a1 a0.Key r4 hr4) ?_; exact L.nil ⟨rfl, rfl, rfl, rfl⟩
   case' q1_10 => skip
   apply lc 20 18 1 [21] [18] [] ?h1_11 ?q1_11 ?_
   case h1_11 =>
    intro b; refine L.buildSlice (e := eS) 20 ([r3, a0.Ticket, r4] : List (List UInt8)) underlying34 info9 rfl rfl rfl hF rfl rfl rfl rfl rfl rfl rfl rfl ?_; exact L.nil ⟨rfl, rfl, rfl, rfl⟩
   case' q1_11 => skip
   apply lc 20 19 1 [22] [] [] ?h1_12 ?q1_12 ?_
   case h1_12 =>
    intro b; refine ca [false] [18] [] 20 ent218 (g218 k false ([r3, a0.Ticket, r4] : List (List UInt8)) r5 hr5) ?_; exact L.nil ⟨rfl, rfl, rfl, rfl⟩
   case' q1_12 => skip
   repeat refine ls ?_
   exact trivial
   all_goals exact lq
  cases H; exact WpC.ret rt
/-! ### I_World_apply -/
def I_World_apply (k : Nat) (a1 : T_Act) (o0 : T_World) : Option (Int × T_World) := (I_World_cred k a1.A a1.B o0).bind fun r1 => cond (!r1.2.1) (some (2, r1.2.2)) ((I_within k a1.C 0 7).bind fun r5 => cond (!r5) (some (2, r1.2.2)) ((I_isService k r1.1.Service).bind fun r7 => cond (!r7) (some (3, r1.2.2)) ((I_ApplyReq k r1.1 (⟨r1.1.Client, r1.2.2.Now, r1.2.2.Fresh⟩ : T_Auth) a1.C).bind fun r8 => (I_World_send k r8 r1.2.2).bind fun r9 => some (r9.1, r9.2))))
theorem ent138 : MG.Enters Tryz.prog 138 := en func138
theorem g138 (k : Nat) (a1 : T_Act) (o0 : T_World) (r : Int × T_World) (H : I_World_apply k a1 o0 = some r) : Gives Tryz.prog 138 [V.one (Cell.ptr 0 0), V.agg (bT_Act a1)] [[Cell.ow 1 (List.map eI o0.Config.UserRealm), Cell.ow 1 (List.map eI o0.Config.ServiceRealm), Cell.ow 2 (List.map eT_Pair o0.Config.Links), Cell.ow 2 (List.map eT_Pair o0.Config.Proxy), cI o0.Config.Skew, cI o0.Now, cI o0.Fresh, Cell.ow 1 (List.map eS o0.Net), Cell.ow 1 (List.map eS o0.Known.Terms), Cell.ow 1 (List.map eI o0.Known.Keys), Cell.ow 4 (List.map eT_Wait o0.Waits), Cell.ow 8 (List.map eT_Cred o0.Creds), Cell.ow 2 (List.map eT_Cache o0.Caches), Cell.ow 11 (List.map eT_Event o0.Log), Cell.ow 15 (List.map eT_Accept o0.Accepts), Cell.ow 1 (List.map eI o0.Leaked)]] [V.one (cI r.1)] [[Cell.ow 1 (List.map eI r.2.Config.UserRealm), Cell.ow 1 (List.map eI r.2.Config.ServiceRealm), Cell.ow 2 (List.map eT_Pair r.2.Config.Links), Cell.ow 2 (List.map eT_Pair r.2.Config.Proxy), cI r.2.Config.Skew, cI r.2.Now, cI r.2.Fresh, Cell.ow 1 (List.map eS r.2.Net), Cell.ow 1 (List.map eS r.2.Known.Terms), Cell.ow 1 (List.map eI r.2.Known.Keys), Cell.ow 4 (List.map eT_Wait r.2.Waits), Cell.ow 8 (List.map eT_Cred r.2.Creds), Cell.ow 2 (List.map eT_Cache r.2.Caches), Cell.ow 11 (List.map eT_Event r.2.Log), Cell.ow 15 (List.map eT_Accept r.2.Accepts), Cell.ow 1 (List.map eI r.2.Leaked)]] := by
 refine Gives.intro func138 rfl rfl rfl rfl ?_; refine fx fun w0 T S0 ob oh hm => ?_
 have hF := fxe w0 T S0 45 ob oh
 unfold I_World_apply at H; obtain ⟨K, hK⟩ := leK k; refine sr ?_; refine bo 27 ?_; refine gn 1 ?_; refine sy 5 ?_; obtain ⟨r1, hr1, H⟩ := bindS H; refine ca [false, false, false] [] [0] 28 ent186 (g186 k  a1.A a1.B o0 r1 hr1) ?_; refine go 3 ?_; refine alc 53 info146 ?_; refine gn 2 ?_; refine WpC.seq (sr ?_); refine go 3 ?_; refine sH H (fun hc H => ?_) (fun hc H => ?_)
 ·refine gn 5 ?_; refine cT ?_; refine sg 1 ?_; cases H; exact WpC.ret rt
 ·refine go 2 ?_; refine cB 54 ent52 (g52 k  a1.C 0 7) H fun r5 H => ?_; refine gn 2 ?_; refine cd H (fun hc H => ?_) (fun hc H => ?_)
  ·refine sg 1 ?_; cases H; exact WpC.ret rt
  ·refine WpC.skip (WpC.seq (sr ?_)); refine go 2 ?_; refine cB 55 ent55 (g55 k  r1.1.Service) H fun r7 H => ?_; refine gn 1 ?_; refine cd H (fun hc H => ?_) (fun hc H => ?_)
   ·refine sg 1 ?_; cases H; exact WpC.ret rt
   ·refine WpC.skip (WpC.seq ?_); obtain ⟨r8, hr8, H⟩ := bindS H; obtain ⟨r9, hr9, H⟩ := bindS H
    apply ldT ⟨[e0 0 _, e0 3 _, (4, [(18, some _), (0, some _)]), e0 5 _, ed 28 1 _, ed 29 2 _, ed 30 3 _, ed 31 4 _, ed 32 5 _, ed 33 6 _, ed 34 7 _, ed 35 8 _, ed 36 9 _, ed 37 10 _, ed 38 11 _, ed 39 12 _, ed 40 13 _, ed 41 14 _, ed 42 15 _, ed 43 16 _, ed 44 17 _], [(37, [(17, none), (0, some _)]), (38, [(17, none), (0, some _)]), (39, [(17, none), (0, some _)]), (40, [(17, none), (0, some _)]), (44, [(17, none), (0, some _)]), (45, [(17, none), (0, some _)]), (46, [(17, none), (0, some _)]), (47, [(17, none), (0, some _)]), (48, [(17, none), (0, some _)]), (49, [(17, none), (0, some _)]), (50, [(17, none), (0, some _)]), (51, [(17, none), (0, some _)]), (52, [(17, none), (0, some _)]), ed 58 17 _, ed 59 17 _, ed 60 17 _, ed 61 17 _, ed 65 17 _, ed 66 17 _, ed 67 17 _, ed 68 17 _, ed 69 17 _, ed 70 17 _, ed 71 17 _, ed 72 17 _, ed 73 17 _], [(0, [(17, some _), (0, some _)]), e0 27 _, e0 53 _], 74, []⟩ [(0, 196608), (0, 229376), (0, 233480), (4, 233472), (0, 233696), (16, 233664), (48, 233600), (112, 233472), (0, 237056), (256, 236544), (768, 235520), (1792, 233472), (4092, 229376), (0, 245760), (8192, 229376), (32766, 196608), (65535, 131072), (131071, 0)] mixed ?L1 ?_
    case L1 =>
     repeat refine ls ?_
     apply lc 74 56 0 [40] [] [] ?h1_12 ?q1_12 ?_
     case h1_12 =>
      intro b; refine bf built56 ?_; exact L.nil ⟨rfl, rfl, rfl, rfl⟩
     case' q1_12 => skip
     repeat refine ls ?_
     apply lc 74 56 1 [43] [] [] ?h1_15 ?q1_15 ?_
     case h1_15 =>
      intro b; refine c0 74 ent190 (g190 k  r1.1 (⟨r1.1.Client, r1.2.2.Now, r1.2.2.Fresh⟩ : T_Auth) a1.C r8 hr8) ?_; exact L.nil ⟨rfl, rfl, rfl, rfl⟩
     case' q1_15 => skip
     apply lc 74 57 17 [44] [58, 59, 60, 61, 65, 66, 67, 68, 69, 70, 71, 72, 73] [0] ?h1_16 ?q1_16 ?_
     case h1_16 =>
      intro b; refine ca [false, false] [] [0] 74 ent184 (g184 k  r8 r1.2.2 r9 hr9) ?_; exact L.nil ⟨rfl, rfl, rfl, rfl⟩
     case' q1_16 => skip
     repeat refine ls ?_
     exact trivial
     all_goals exact lq
    cases H; exact WpC.ret rt
/-! ### I_applied -/
def I_applied.j2 (k : Nat) (v26 : List (List UInt8)) (v27 : List Int) (v28 : Bool) (v29 : T_Ticket) (v30 : T_Auth) : Option (T_Ticket × T_Auth × Int × List UInt8 × Bool) := cond v28 (some ((⟨0, 0, 0, (⟨0, 0, 0⟩ : T_Rest), [], []⟩ : T_Ticket), (⟨0, 0, 0⟩ : T_Auth), 0, ([] : List UInt8), false)) ((at? v27 2).bind fun b31 => (at? v26 1).bind fun b32 => some (v29, v30, b31, b32, true))
def I_applied (k : Nat) (a0 : Int) (a1 : List UInt8) : Option (T_Ticket × T_Auth × Int × List UInt8 × Bool) := (I_Parts k a1).bind fun r1 => cond ((r1.1.length : Int) != 3) (some ((⟨0, 0, 0, (⟨0, 0, 0⟩ : T_Rest), [], []⟩ : T_Ticket), (⟨0, 0, 0⟩ : T_Auth), 0, ([] : List UInt8), false)) ((at? r1.1 0).bind fun b2 => (I_ReadNums k b2).bind fun r3 => (at? r1.1 1).bind fun b4 => (I_PrincipalKey k (IntKind.i64.wrap (3 + a0))).bind fun r5 => (I_ReadTicket k b4 r5).bind fun r6 => (at? r1.1 2).bind fun b7 => (I_ReadAuth k b7 r6.1.Key).bind fun r8 => cond ((r3.1.length : Int) != 3) (I_applied.j2 k r1.1 r3.1 true r6.1 r8.1) ((at? r3.1 0).bind fun b33 => cond (b33 != 4) (I_applied.j2 k r1.1 r3.1 true r6.1 r8.1) ((at? r3.1 1).bind fun b34 => cond (b34 != a0) (I_applied.j2 k r1.1 r3.1 true r6.1 r8.1) ((at? r3.1 2).bind fun b35 => (I_within k b35 0 7).bind fun r36 => cond (!r36) (I_applied.j2 k r1.1 r3.1 true r6.1 r8.1) (cond (!r6.2) (I_applied.j2 k r1.1 r3.1 true r6.1 r8.1) (cond (r6.1.Service != a0) (I_applied.j2 k r1.1 r3.1 true r6.1 r8.1) (cond (!r8.2) (I_applied.j2 k r1.1 r3.1 true r6.1 r8.1) (I_applied.j2 k r1.1 r3.1 (r8.1.Client != r6.1.Client) r6.1 r8.1))))))))
theorem ent228 : MG.Enters Tryz.prog 228 := en func228
theorem g228 (k : Nat) (a0 : Int) (a1 : List UInt8) (r : T_Ticket × T_Auth × Int × List UInt8 × Bool) (H : I_applied k a0 a1 = some r) : Gives Tryz.prog 228 [V.one (cI a0), V.one (cS a1)] [] [V.agg [cI r.1.Client, cI r.1.Service, cI r.1.Key, cI r.1.Rest.Servers, cI r.1.Rest.Ops, cI r.1.Rest.End, Cell.ow 1 (List.map eI r.1.Path), Cell.ow 1 (List.map eI r.1.Via)], V.agg (bT_Auth r.2.1), V.one (cI r.2.2.1), V.one (cS r.2.2.2.1), V.one (cL r.2.2.2.2)] [] := by
 refine Gives.intro func228 rfl rfl rfl rfl ?_; refine fx fun w0 T S0 ob oh hm => ?_
 have hF := fxe w0 T S0 107 ob oh
 unfold I_applied at H; obtain ⟨K, hK⟩ := leK k; refine sr ?_; refine alc 2 info235 ?_; refine alc 3 info56 ?_; refine gn 3 ?_; refine sy 1 ?_; refine cB 4 ent146 (g146 k  a1) H fun r1 H => ?_; refine gn 5 ?_; refine WpC.seq (sr ?_); refine mv ?_; refine L.lenR (xs := r1.1) (e := eS) underlying34 hF rfl rfl rfl rfl ?_; refine gn 1 ?_; refine cd H (fun hc H => ?_) (fun hc H => ?_)
 ·refine sr ?_; refine bf built235 ?_; refine bf built56 ?_; refine gn 5 ?_; refine WpC.le (Le.ownB 2 6 6 1 rfl rfl rfl) ?_; refine WpC.le (Le.ownB 2 7 7 1 rfl rfl rfl) ?_; cases H; exact WpC.ret rt
 ·refine WpC.skip (sr ?_); refine mv ?_; obtain ⟨b2, hb2, H⟩ := bindS H; refine ix underlying34 info9 hb2 ?_; refine L.loadEp (xs := r1.1) (e := eS) shape9 hF rfl rfl rfl rfl (at?_get hb2).2 rfl rfl ?_; refine cB 6 ent224 (g224 k  b2) H fun r3 H => ?_; refine gn 5 ?_; refine WpC.seq ?_; obtain ⟨b4, hb4, H⟩ := bindS H; obtain ⟨r5, hr5, H⟩ := bindS H; obtain ⟨r6, hr6, H⟩ := bindS H
  apply ldT ⟨[e0 0 _, e0 4 _, e0 5 _, e0 9 _, e0 11 _, ed 13 11 _, ed 14 13 _, ed 34 8 _, ed 35 1 _, ed 36 2 _, ed 37 3 _, ed 38 4 _, ed 39 5 _, ed 40 6 _, ed 41 7 _, ed 42 9 _, ed 43 10 _], [e0 4 _, e0 6 _, ed 15 7 _, ed 16 7 _], [e0 2 _, e0 3 _, (18, [(12, some _), (11, some _)])], 19, []⟩ [(0, 7110), (1, 7108), (3, 7104), (0, 7152), (8, 7136), (24, 7104), (63, 7040), (127, 6912), (255, 6144), (255, 4096), (0, 6144), (1535, 4096), (4095, 0)] mixed ?L1 ?_
  case L1 =>
   repeat refine ls ?_
   apply lc 19 8 0 [36] [] [] ?h1_1 ?q1_1 ?_
   case h1_1 =>
    intro b; refine ix underlying34 info9 hb4 ?_; exact L.nil ⟨rfl, rfl, rfl, rfl⟩
   case' q1_1 => skip
   apply lc 19 8 0 [37] [] [] ?h1_2 ?q1_2 ?_
   case h1_2 =>
    intro b; refine L.loadEp (xs := r1.1) (e := eS) shape9 hF rfl rfl rfl rfl (at?_get hb4).2 rfl rfl ?_; exact L.nil ⟨rfl, rfl, rfl, rfl⟩
   case' q1_2 => skip
   repeat refine ls ?_
   apply lc 19 8 1 [40] [] [] ?h1_5 ?q1_5 ?_
   case h1_5 =>
    intro b; refine c0 19 ent17 (g17 k  (IntKind.i64.wrap (3 + a0)) r5 hr5) ?_; exact L.nil ⟨rfl, rfl, rfl, rfl⟩
   case' q1_5 => skip
   apply lc 19 9 9 [41] [15, 16] [] ?h1_6 ?q1_6 ?_
   case h1_6 =>
    intro b; refine c0 19 ent253 (g253 k  b4 r5 r6 hr6) ?_; exact L.nil ⟨rfl, rfl, rfl, rfl⟩
   case' q1_6 => skip
   repeat refine ls ?_
   apply lc 19 18 1 [13] [] [18] ?h1_10 ?q1_10 ?_
   case h1_10 =>
    intro b; refine alc 19 info235 ?_; exact L.nil ⟨rfl, rfl, rfl, rfl⟩
   case' q1_10 => skip
   refine lb ?_
   repeat refine ls ?_
   exact trivial
   all_goals exact lq
  refine WpC.seq ?_; obtain ⟨b7, hb7, H⟩ := bindS H; obtain ⟨r8, hr8, H⟩ := bindS H
  apply ldT ⟨[e0 0 _, e0 4 _, e0 5 _, e0 9 _, e0 11 _, e0 13 _, e0 14 _, ed 15 10 _, ed 16 12 _, ed 44 7 _, ed 45 1 _, ed 46 2 _, ed 47 3 _, ed 48 4 _, ed 49 5 _, ed 50 6 _, ed 51 8 _, ed 52 9 _], [e0 4 _, e0 6 _, e0 15 _, e0 16 _], [e0 2 _, e0 3 _, e0 18 _, (23, [(11, some _), (10, some _)])], 24, []⟩ [(0, 3558), (1, 3556), (3, 3552), (0, 3568), (8, 3552), (31, 3520), (63, 3456), (127, 3072), (127, 2048), (0, 3072), (767, 2048), (2047, 0)] mixed ?L2 ?_
  case L2 =>
   repeat refine ls ?_
   apply lc 24 19 0 [46] [] [] ?h2_1 ?q2_1 ?_
   case h2_1 =>
    intro b; refine ix underlying34 info9 hb7 ?_; exact L.nil ⟨rfl, rfl, rfl, rfl⟩
   case' q2_1 => skip
   apply lc 24 19 0 [47] [] [] ?h2_2 ?q2_2 ?_
   case h2_2 =>
    intro b; refine L.loadEp (xs := r1.1) (e := eS) shape9 hF rfl rfl rfl rfl (at?_get hb7).2 rfl rfl ?_; exact L.nil ⟨rfl, rfl, rfl, rfl⟩
   case' q2_2 => skip
   repeat refine ls ?_
   apply lc 24 19 4 [50] [] [] ?h2_5 ?q2_5 ?_
   case h2_5 =>
    intro b; refine c0 24 ent249 (g249 k  b7 r6.1.Key r8 hr8) ?_; exact L.nil ⟨rfl, rfl, rfl, rfl⟩
   case' q2_5 => skip
   repeat refine ls ?_
   apply lc 24 23 1 [15] [] [23] ?h2_9 ?q2_9 ?_
   case h2_9 =>
    intro b; refine alc 24 info56 ?_; exact L.nil ⟨rfl, rfl, rfl, rfl⟩
   case' q2_9 => skip
   refine lb ?_
   repeat refine ls ?_
   exact trivial
   all_goals exact lq
  refine WpC.seq ?_; refine WpC.join (fun σ => ∃ (kj2 : Nat) (v26 : List (List UInt8)) (v27 : List Int) (v28 : Bool) (v29 : T_Ticket) (v30 : T_Auth), kj2 ≤ K ∧ I_applied.j2 kj2 v26 v27 v28 v29 v30 = some r ∧ σ = mkSt [(4, oP 0 0), (5, oP 1 0), (9, MG.one (Cell.own 2)), (11, MG.one (Cell.own 3)), (13, oP 4 0), (15, oP 5 0), (96, oL v28)] [(2, ⟨1, List.map eS v26⟩), (3, ⟨1, List.map eI v27⟩), (6, ⟨1, List.map eI v29.Path⟩), (7, ⟨1, List.map eI v29.Via⟩)] [(0, zc2), (1, [cI 0, cI 0, cI 0]), (4, [cI v29.Client, cI v29.Service, cI v29.Key, cI v29.Rest.Servers, cI v29.Rest.Ops, cI v29.Rest.End, Cell.own 6, Cell.own 7]), (5, (bT_Auth v30))] 8) ?_ ?_
  ·rintro _ ⟨kj2, v26, v27, v28, v29, v30, hkj2, H, rfl⟩
   unfold I_applied.j2 at H; refine cd H (fun hc H => ?_) (fun hc H => ?_)
   ·refine sr ?_; refine bf built235 ?_; refine bf built56 ?_; refine gn 5 ?_; refine WpC.le (Le.ownB 0 6 8 1 rfl rfl rfl) ?_; refine WpC.le (Le.ownB 0 7 9 1 rfl rfl rfl) ?_; cases H; exact WpC.ret rt
   ·refine WpC.skip (WpC.seq ?_); obtain ⟨b31, hb31, H⟩ := bindS H; obtain ⟨b32, hb32, H⟩ := bindS H
    apply ldT ⟨[e0 4 _, e0 5 _, ed 6 11 _, ed 7 12 _, ed 8 13 _, e0 9 _, e0 11 _, e0 13 _, e0 15 _, ed 99 1 _, ed 100 2 _, ed 101 3 _, ed 102 4 _, ed 103 5 _, ed 104 6 _, ed 105 7 _, ed 106 8 _], [e0 2 _, e0 3 _, e0 6 _, e0 7 _], [(0, [(9, some _), (0, some _)]), (1, [(10, some _), (0, some _)]), e0 4 _, e0 5 _], 8, []⟩ [(0, 7936), (0, 7680), (0, 7192), (4, 7184), (12, 7168), (0, 6336), (32, 6272), (96, 6144), (1, 7680), (259, 7168), (799, 6144), (2047, 4096), (4095, 0)] mixed ?L3 ?_
    case L3 =>
     repeat refine ls ?_
     apply lc 8 8 0 [102] [] [] ?h3_3 ?q3_3 ?_
     case h3_3 =>
      intro b; refine ix underlying24 info3 hb31 ?_; exact L.nil ⟨rfl, rfl, rfl, rfl⟩
     case' q3_3 => skip
     apply lc 8 8 0 [103] [] [] ?h3_4 ?q3_4 ?_
     case h3_4 =>
      intro b; refine L.loadEp (xs := v27) (e := eI) shape3 hF rfl rfl rfl rfl (at?_get hb31).2 rfl rfl ?_; exact L.nil ⟨rfl, rfl, rfl, rfl⟩
     case' q3_4 => skip
     repeat refine ls ?_
     apply lc 8 8 0 [105] [] [] ?h3_6 ?q3_6 ?_
     case h3_6 =>
      intro b; refine ix underlying34 info9 hb32 ?_; exact L.nil ⟨rfl, rfl, rfl, rfl⟩
     case' q3_6 => skip
     apply lc 8 8 0 [106] [] [] ?h3_7 ?q3_7 ?_
     case h3_7 =>
      intro b; refine L.loadEp (xs := v26) (e := eS) shape9 hF rfl rfl rfl rfl (at?_get hb32).2 rfl rfl ?_; exact L.nil ⟨rfl, rfl, rfl, rfl⟩
     case' q3_7 => skip
     refine lb ?_; refine lb ?_
     repeat refine ls ?_
     exact trivial
     all_goals exact lq
    cases H; exact WpC.ret rt
  ·refine WpC.regionL ?_; refine mv ?_; refine L.lenR (xs := r3.1) (e := eI) underlying24 hF rfl rfl rfl rfl ?_; refine go 2 ?_; refine sH H (fun hc H => ?_) (fun hc H => ?_)
   ·refine gn 40 ?_; exact ⟨_, ⟨k, r1.1, r3.1, true, r6.1, r8.1, by omega, H, rfl⟩, lm [(0, 2), (1, 3), (2, 4), (3, 6), (4, 18), (5, 23), (6, 15), (7, 16)] hm⟩
   ·refine mv ?_; obtain ⟨b33, hb33, H⟩ := bindS H; refine ix underlying24 info3 hb33 ?_; refine L.loadEp (xs := r3.1) (e := eI) shape3 hF rfl rfl rfl rfl (at?_get hb33).2 rfl rfl ?_; refine go 3 ?_; refine sH H (fun hc H => ?_) (fun hc H => ?_)
    ·refine gn 34 ?_; exact ⟨_, ⟨k, r1.1, r3.1, true, r6.1, r8.1, by omega, H, rfl⟩, lm [(0, 2), (1, 3), (2, 4), (3, 6), (4, 18), (5, 23), (6, 15), (7, 16)] hm⟩
    ·refine mv ?_; obtain ⟨b34, hb34, H⟩ := bindS H; refine ix underlying24 info3 hb34 ?_; refine L.loadEp (xs := r3.1) (e := eI) shape3 hF rfl rfl rfl rfl (at?_get hb34).2 rfl rfl ?_; refine go 4 ?_; refine sH H (fun hc H => ?_) (fun hc H => ?_)
     ·refine gn 27 ?_; exact ⟨_, ⟨k, r1.1, r3.1, true, r6.1, r8.1, by omega, H, rfl⟩, lm [(0, 2), (1, 3), (2, 4), (3, 6), (4, 18), (5, 23), (6, 15), (7, 16)] hm⟩
     ·refine mv ?_; obtain ⟨b35, hb35, H⟩ := bindS H; refine ix underlying24 info3 hb35 ?_; refine L.loadEp (xs := r3.1) (e := eI) shape3 hF rfl rfl rfl rfl (at?_get hb35).2 rfl rfl ?_; refine cB 24 ent52 (g52 k  b35 0 7) H fun r36 H => ?_; refine go 3 ?_; refine sH H (fun hc H => ?_) (fun hc H => ?_)
      ·refine gn 20 ?_; exact ⟨_, ⟨k, r1.1, r3.1, true, r6.1, r8.1, by omega, H, rfl⟩, lm [(0, 2), (1, 3), (2, 4), (3, 6), (4, 18), (5, 23), (6, 15), (7, 16)] hm⟩
      ·refine go 4 ?_; refine sH H (fun hc H => ?_) (fun hc H => ?_)
       ·refine gn 16 ?_; exact ⟨_, ⟨k, r1.1, r3.1, true, r6.1, r8.1, by omega, H, rfl⟩, lm [(0, 2), (1, 3), (2, 4), (3, 6), (4, 18), (5, 23), (6, 15), (7, 16)] hm⟩
       ·refine go 6 ?_; refine sH H (fun hc H => ?_) (fun hc H => ?_)
        ·refine gn 10 ?_; exact ⟨_, ⟨k, r1.1, r3.1, true, r6.1, r8.1, by omega, H, rfl⟩, lm [(0, 2), (1, 3), (2, 4), (3, 6), (4, 18), (5, 23), (6, 15), (7, 16)] hm⟩
        ·refine go 4 ?_; refine sH H (fun hc H => ?_) (fun hc H => ?_)
         ·refine gn 6 ?_; exact ⟨_, ⟨k, r1.1, r3.1, true, r6.1, r8.1, by omega, H, rfl⟩, lm [(0, 2), (1, 3), (2, 4), (3, 6), (4, 18), (5, 23), (6, 15), (7, 16)] hm⟩
         ·refine gn 6 ?_; exact ⟨_, ⟨k, r1.1, r3.1, (r8.1.Client != r6.1.Client), r6.1, r8.1, by omega, H, rfl⟩, lm [(0, 2), (1, 3), (2, 4), (3, 6), (4, 18), (5, 23), (6, 15), (7, 16)] hm⟩
/-! ### I_Permits -/
def I_Permits (k : Nat) (a0 : T_Rest) (a1 a2 a3 : Int) : Option Bool := (I_RestOk k a0).bind fun r7 => cond r7 ((I_within k a1 0 2).bind fun r8 => cond r8 ((I_within k a2 0 7).bind fun r9 => cond r9 (cond (!(decide (a1 < 0))) (cond ((Go.bits .and .i64 (shrI .i64 a0.Servers a1) 1) == 1) (cond (!(decide (a2 < 0))) (cond ((Go.bits .and .i64 (shrI .i64 a0.Ops a2) 1) == 1) ((I_within k a3 0 a0.End).bind fun r12 => some r12) (some false)) none) (some false)) none) (some false)) (some false)) (some false)
theorem ent211 : MG.Enters Tryz.prog 211 := en func211
theorem g211 (k : Nat) (a0 : T_Rest) (a1 a2 a3 : Int) (r : Bool) (H : I_Permits k a0 a1 a2 a3 = some r) : Gives Tryz.prog 211 [V.agg (bT_Rest a0), V.one (cI a1), V.one (cI a2), V.one (cI a3)] [] [V.one (cL r)] [] := by
 refine Gives.intro func211 rfl rfl rfl rfl ?_; refine fx fun w0 T S0 ob oh hm => ?_
 have hF := fxe w0 T S0 41 ob oh
 unfold I_Permits at H; obtain ⟨K, hK⟩ := leK k; refine sr ?_; refine bo 6 ?_; refine gn 1 ?_; refine sy 1 ?_; refine cB 7 ent56 (g56 k  a0) H fun r7 H => ?_; refine mv ?_; refine sH H (fun hc H => ?_) (fun hc H => ?_)
 ·refine mv ?_; refine cB 8 ent52 (g52 k  a1 0 2) H fun r8 H => ?_; refine go 2 ?_; refine sH H (fun hc H => ?_) (fun hc H => ?_)
  ·refine mv ?_; refine cB 9 ent52 (g52 k  a2 0 7) H fun r9 H => ?_; refine go 2 ?_; refine sH H (fun hc H => ?_) (fun hc H => ?_)
   ·refine go 3 ?_; obtain ⟨h10, H⟩ := condG H; refine L.shr hF rfl rfl rfl rfl (by simpa using h10) ?_; refine go 4 ?_; refine sH H (fun hc H => ?_) (fun hc H => ?_)
    ·refine go 3 ?_; obtain ⟨h11, H⟩ := condG H; refine L.shr hF rfl rfl rfl rfl (by simpa using h11) ?_; refine go 4 ?_; refine sH H (fun hc H => ?_) (fun hc H => ?_)
     ·refine go 3 ?_; refine cB 10 ent52 (g52 k  a3 0 a0.End) H fun r12 H => ?_; refine gn 2 ?_; cases H; exact WpC.ret rt
     ·refine gn 6 ?_; cases H; exact WpC.ret rt
    ·refine gn 14 ?_; cases H; exact WpC.ret rt
   ·refine gn 22 ?_; cases H; exact WpC.ret rt
  ·refine gn 26 ?_; cases H; exact WpC.ret rt
 ·refine gn 30 ?_; cases H; exact WpC.ret rt
/-! ### I_isSkew -/
def I_isSkew (k : Nat) (a0 : Int) : Option Bool := (I_within k a0 0 20).bind fun r1 => some r1
theorem ent195 : MG.Enters Tryz.prog 195 := en func195
theorem g195 (k : Nat) (a0 : Int) (r : Bool) (H : I_isSkew k a0 = some r) : Gives Tryz.prog 195 [V.one (cI a0)] [] [V.one (cL r)] [] := by
 refine Gives.intro func195 rfl rfl rfl rfl ?_; refine fx fun w0 T S0 ob oh hm => ?_
 have hF := fxe w0 T S0 5 ob oh
 unfold I_isSkew at H; obtain ⟨K, hK⟩ := leK k; refine sg 1 ?_; refine sy 1 ?_; refine cB 1 ent52 (g52 k  a0 0 20) H fun r1 H => ?_; refine gn 1 ?_; cases H; exact WpC.ret rt
/-! ### I_CacheTry -/
def I_CacheTry.j8 (cl7 : Int → Int → (List T_Auth) → T_Cache → Int → Int → T_Auth → T_Cache → Option (T_Cache × Int)) (k : Nat) (v110 v111 : Int) (v112 : List T_Auth) (v113 : T_Cache) (v114 v115 : Int) (v116 : T_Auth) (v117 : T_Cache) : Option (T_Cache × Int) := cl7 v110 v111 v112 v113 v114 (IntKind.i64.wrap (v115 + 1)) v116 v117
def I_CacheTry.j10 (k : Nat) (v138 v139 : Int) (v140 : List T_Auth) (v141 : Bool) (v142 : T_Cache) (v143 : T_Auth) (v144 : T_Cache) : Option (T_Cache × Int) := cond v141 (some (v144, 1)) ((I_apart k v138 v143.Time).bind fun r145 => cond (decide (r145 > v139)) (some (v144, 2)) (cond (decide (v138 ≤ v142.Quiet)) (some (v144, 3)) ((V_Contains_Auth k v142.Seen v143).bind fun r146 => cond r146 (some (v144, 4)) (cond ((v140.length : Int) == 6) (some (v144, 5)) (cond (decide ((2 * (v140.length + ([v143] : List T_Auth).length) + 192) * 24 ≤ 281474976710656)) (some ((⟨v144.Quiet, (v140 ++ ([v143] : List T_Auth))⟩ : T_Cache), 0)) none)))))
def I_CacheTry.l7 : Nat → Int → Int → (List T_Auth) → T_Cache → Int → Int → T_Auth → T_Cache → Option (T_Cache × Int)
 | 0, _, _, _, _, _, _, _, _ => none
 | k7 + 1, v100, v101, v102, v103, v104, v105, v106, v107 => cond (decide (v105 < v104)) ((at? v103.Seen v105).bind fun b118 => cond (decide (b118.Time ≥ (IntKind.i64.wrap (v100 - v101)))) (cond (decide ((2 * (v102.length + ([b118] : List T_Auth).length) + 192) * 24 ≤ 281474976710656)) (I_CacheTry.j8 (I_CacheTry.l7 k7) k7 v100 v101 (v102 ++ ([b118] : List T_Auth)) v103 v104 v105 v106 v107) none) (I_CacheTry.j8 (I_CacheTry.l7 k7) k7 v100 v101 v102 v103 v104 v105 v106 v107)) ((I_authOk k7 v106).bind fun r148 => cond (!r148) (I_CacheTry.j10 k7 v100 v101 v102 true v103 v106 v107) ((I_isTime k7 v100).bind fun r149 => cond (!r149) (I_CacheTry.j10 k7 v100 v101 v102 true v103 v106 v107) ((I_isSkew k7 v101).bind fun r150 => I_CacheTry.j10 k7 v100 v101 v102 (!r150) v103 v106 v107)))
def I_CacheTry (k : Nat) (a0 : T_Cache) (a1 : T_Auth) (a2 a3 : Int) : Option (T_Cache × Int) := (I_CacheOk k a0).bind fun r2 => cond (!r2) (some ((⟨0, []⟩ : T_Cache), 1)) ((I_copyCache k a0).bind fun r3 => I_CacheTry.l7 k a2 a3 ([] : List T_Auth) a0 (a0.Seen.length : Int) 0 a1 r3)
theorem ent229 : MG.Enters Tryz.prog 229 := en func229
theorem g229 (k : Nat) (g0 : Bool) (a0 : T_Cache) (a1 : T_Auth) (a2 a3 : Int) (r : T_Cache × Int) (H : I_CacheTry k a0 a1 a2 a3 = some r) : Gives Tryz.prog 229 [V.agg [cI a0.Quiet, Cell.sl g0 (List.map eT_Auth a0.Seen)], V.agg (bT_Auth a1), V.one (cI a2), V.one (cI a3)] [] [V.agg [cI r.1.Quiet, Cell.ow 3 (List.map eT_Auth r.1.Seen)], V.one (cI r.2)] [] := by
 refine Gives.intro func229 rfl rfl rfl rfl ?_; refine fx fun w0 T S0 ob oh hm => ?_
 have hF := fxe w0 T S0 85 ob oh
 unfold I_CacheTry at H; obtain ⟨K, hK⟩ := leK k; refine sr ?_; refine bo 7 ?_; refine bo 8 ?_; refine alc 9 info123 ?_; refine gn 1 ?_; refine WpC.seq (sr ?_); refine lp shape123 ?_; refine cB 10 ent110 (g110 k g0 a0) H fun r2 H => ?_; refine gn 1 ?_; refine cd H (fun hc H => ?_) (fun hc H => ?_)
 ·refine sr ?_; refine bf built123 ?_; refine gn 2 ?_; refine WpC.le (Le.ownB 9 1 11 3 rfl rfl rfl) ?_; cases H; exact WpC.ret rt
 ·refine WpC.skip (sr ?_); refine lp shape123 ?_; refine cB 11 ent132 (g132 k g0 a0) H fun r3 H => ?_; refine alc 13 info123 ?_; refine gn 1 ?_; refine sr ?_; refine L.buildSlice (e := eT_Auth) 14 ([] : List T_Auth) underlying121 info56 rfl rfl rfl hF rfl rfl rfl rfl rfl rfl rfl rfl ?_; refine gn 1 ?_; refine WpC.seq (sr ?_); refine go 2 ?_; refine L.lenR (xs := a0.Seen) (e := eT_Auth) underlying121 hF rfl rfl rfl rfl ?_; refine gn 1 ?_; refine WpC.block ?_
  refine WpC.loopL (P := Tryz.prog) (fun n σ => ∃ (v100 v101 : Int) (v102 : List T_Auth) (v103 : T_Cache) (v104 v105 : Int) (v106 : T_Auth) (v107 : T_Cache), n ≤ K ∧ I_CacheTry.l7 n v100 v101 v102 v103 v104 v105 v106 v107 = some r ∧ σ = mkSt [(2, oI v100), (3, oI v101), (4, oP 0 0), (5, oP 1 0), (8, oP 2 0), (10, oP 3 0), (11, MG.one (Cell.own 4)), (22, MG.one (Cell.sl g0 (List.map eT_Auth v103.Seen))), (23, oI v104), (24, oI v105)] [(4, ⟨3, List.map eT_Auth v102⟩), (5, ⟨3, List.map eT_Auth v107.Seen⟩)] [(0, [cI v103.Quiet, Cell.sl g0 (List.map eT_Auth v103.Seen)]), (1, (bT_Auth v106)), (2, [cI 0, Cell.nil]), (3, [cI v107.Quiet, Cell.own 5])] 6) k ⟨_, ⟨a2, a3, ([] : List T_Auth), a0, (a0.Seen.length : Int), 0, a1, r3, by omega, H, rfl⟩, lm [(0, 7), (1, 8), (2, 9), (3, 13), (4, 14), (5, 12)] hm⟩ ?_; clear H
  rintro k7 _ ⟨v100, v101, v102, v103, v104, v105, v106, v107, hk7, H, rfl⟩
  cases k7 with
  | zero => cases H
  | succ k7 =>
   rw [I_CacheTry.l7] at H
   refine sg 1 ?_; refine WpC.seq ?_; refine cd H (fun hc H => ?_) (fun hc H => ?_)
   ·refine WpC.skip ?_; refine WpC.join (fun σ => ∃ (kj8 : Nat) (v110 v111 : Int) (v112 : List T_Auth) (v113 : T_Cache) (v114 v115 : Int) (v116 : T_Auth) (v117 : T_Cache), kj8 ≤ K ∧ I_CacheTry.j8 (I_CacheTry.l7 k7) kj8 v110 v111 v112 v113 v114 v115 v116 v117 = some r ∧ σ = mkSt [(2, oI v110), (3, oI v111), (4, oP 0 0), (5, oP 1 0), (8, oP 2 0), (10, oP 3 0), (11, MG.one (Cell.own 4)), (22, MG.one (Cell.sl g0 (List.map eT_Auth v113.Seen))), (23, oI v114), (24, oI v115)] [(4, ⟨3, List.map eT_Auth v112⟩), (5, ⟨3, List.map eT_Auth v117.Seen⟩)] [(0, [cI v113.Quiet, Cell.sl g0 (List.map eT_Auth v113.Seen)]), (1, (bT_Auth v116)), (2, [cI 0, Cell.nil]), (3, [cI v117.Quiet, Cell.own 5])] 6) ?_ ?_
    ·rintro _ ⟨kj8, v110, v111, v112, v113, v114, v115, v116, v117, hkj8, H, rfl⟩
     unfold I_CacheTry.j8 at H; refine WpC.regionL ?_; refine gn 2 ?_; exact ⟨k7, _, by omega, ⟨v110, v111, v112, v113, v114, (IntKind.i64.wrap (v115 + 1)), v116, v117, by omega, H, rfl⟩, lm [(0, 0), (1, 1), (2, 2), (3, 3), (4, 4), (5, 5)] hm⟩
    ·refine WpC.block (sr ?_); obtain ⟨b118, hb118, H⟩ := bindS H; refine ix underlying121 info56 hb118 ?_; refine le shape56 ?_; refine alc 6 info56 ?_; refine gn 1 ?_; refine sg 6 ?_; refine cd H (fun hc H => ?_) (fun hc H => ?_)
     ·refine WpC.regionL ?_; refine go 2 ?_; refine L.buildSlice (e := eT_Auth) 7 ([b118] : List T_Auth) underlying121 info56 rfl rfl rfl hF rfl rfl rfl rfl rfl rfl rfl rfl ?_; obtain ⟨h119, H⟩ := condG H; refine L.append (xs := v102) (ys := ([b118] : List T_Auth)) (e := eT_Auth) 8 underlying121 info56 rfl rfl hF rfl rfl rfl rfl rfl rfl rfl rfl (fun _ => rfl) (fun _ _ h1 h2 => by cases h1; cases h2; rfl) ⟨_, underlying121⟩ (of_decide_eq_true h119) rfl rfl ?_; refine gn 1 ?_; exact ⟨_, ⟨k7, v100, v101, (v102 ++ ([b118] : List T_Auth)), v103, v104, v105, v106, v107, by omega, H, rfl⟩, lm [(0, 0), (1, 1), (2, 2), (3, 3), (4, 8), (5, 5)] hm⟩
     ·refine WpC.skip ?_; exact ⟨_, ⟨k7, v100, v101, v102, v103, v104, v105, v106, v107, by omega, H, rfl⟩, lm [(0, 0), (1, 1), (2, 2), (3, 3), (4, 4), (5, 5)] hm⟩
   ·refine WpC.exit (WpC.seq (WpC.block ?_)); refine WpC.join (fun σ => ∃ (kj10 : Nat) (v138 v139 : Int) (v140 : List T_Auth) (v141 : Bool) (v142 : T_Cache) (v143 : T_Auth) (v144 : T_Cache), kj10 ≤ K ∧ I_CacheTry.j10 kj10 v138 v139 v140 v141 v142 v143 v144 = some r ∧ σ = mkSt [(2, oI v138), (3, oI v139), (4, oP 0 0), (5, oP 1 0), (8, oP 2 0), (10, oP 3 0), (11, MG.one (Cell.own 4)), (39, oL v141)] [(4, ⟨3, List.map eT_Auth v140⟩), (5, ⟨3, List.map eT_Auth v144.Seen⟩)] [(0, [cI v142.Quiet, Cell.sl g0 (List.map eT_Auth v142.Seen)]), (1, (bT_Auth v143)), (2, [cI 0, Cell.nil]), (3, [cI v144.Quiet, Cell.own 5])] 6) ?_ ?_
    ·rintro _ ⟨kj10, v138, v139, v140, v141, v142, v143, v144, hkj10, H, rfl⟩
     unfold I_CacheTry.j10 at H; refine cd H (fun hc H => ?_) (fun hc H => ?_)
     ·refine sg 3 ?_; cases H; exact WpC.ret rt
     ·refine sy 3 ?_; refine cB 6 ent245 (g245 kj10  v138 v143.Time) H fun r145 H => ?_; refine gn 3 ?_; refine cd H (fun hc H => ?_) (fun hc H => ?_)
      ·refine sg 3 ?_; cases H; exact WpC.ret rt
      ·refine sg 5 ?_; refine cd H (fun hc H => ?_) (fun hc H => ?_)
       ·refine sg 3 ?_; cases H; exact WpC.ret rt
       ·refine sy 3 ?_; refine cB 7 ent164 (g164 kj10 g0 v142.Seen v143) H fun r146 H => ?_; refine gn 1 ?_; refine cd H (fun hc H => ?_) (fun hc H => ?_)
        ·refine sg 3 ?_; cases H; exact WpC.ret rt
        ·refine sy 1 ?_; refine L.lenR (xs := v140) (e := eT_Auth) underlying121 hF rfl rfl rfl rfl ?_; refine gn 2 ?_; refine cd H (fun hc H => ?_) (fun hc H => ?_)
         ·refine sg 3 ?_; cases H; exact WpC.ret rt
         ·refine WpC.skip (sr ?_); refine go 2 ?_; refine L.buildSlice (e := eT_Auth) 8 ([v143] : List T_Auth) underlying121 info56 rfl rfl rfl hF rfl rfl rfl rfl rfl rfl rfl rfl ?_; obtain ⟨h147, H⟩ := condG H; refine L.append (xs := v140) (ys := ([v143] : List T_Auth)) (e := eT_Auth) 9 underlying121 info56 rfl rfl hF rfl rfl rfl rfl rfl rfl rfl rfl (fun _ => rfl) (fun _ _ h1 h2 => by cases h1; cases h2; rfl) ⟨_, underlying121⟩ (of_decide_eq_true h147) rfl rfl ?_; refine gn 2 ?_; refine sg 3 ?_; cases H; exact WpC.ret rt
    ·refine WpC.regionL ?_; refine lp shape56 ?_; refine cB 6 ent163 (g163 k7  v106) H fun r148 H => ?_; refine go 2 ?_; refine sH H (fun hc H => ?_) (fun hc H => ?_)
     ·refine gn 10 ?_; exact ⟨_, ⟨k7, v100, v101, v102, true, v103, v106, v107, by omega, H, rfl⟩, lm [(0, 0), (1, 1), (2, 2), (3, 3), (4, 4), (5, 5)] hm⟩
     ·refine mv ?_; refine cB 7 ent105 (g105 k7  v100) H fun r149 H => ?_; refine go 3 ?_; refine sH H (fun hc H => ?_) (fun hc H => ?_)
      ·refine gn 5 ?_; exact ⟨_, ⟨k7, v100, v101, v102, true, v103, v106, v107, by omega, H, rfl⟩, lm [(0, 0), (1, 1), (2, 2), (3, 3), (4, 4), (5, 5)] hm⟩
      ·refine mv ?_; refine cB 8 ent195 (g195 k7  v101) H fun r150 H => ?_; refine gn 3 ?_; exact ⟨_, ⟨k7, v100, v101, v102, (!r150), v103, v106, v107, by omega, H, rfl⟩, lm [(0, 0), (1, 1), (2, 2), (3, 3), (4, 4), (5, 5)] hm⟩
/-! ### I_Serve -/
def I_Serve.j2 (k : Nat) (v19 v20 : Int) (v21 : List UInt8) (v22 : Bool) (v23 : T_Config) (v24 : T_Cache) : Option (T_Cache × T_Accept × Int) := cond v22 ((I_copyCache k v24).bind fun r25 => some (r25, (⟨0, 0, 0, 0, 0, (⟨0, 0, 0⟩ : T_Auth), (⟨0, 0, 0⟩ : T_Rest), [], [], 0, ([] : List UInt8)⟩ : T_Accept), 1)) ((I_applied k v19 v21).bind fun r26 => cond (!r26.2.2.2.2) ((I_copyCache k v24).bind fun r28 => some (r28, (⟨0, 0, 0, 0, 0, (⟨0, 0, 0⟩ : T_Auth), (⟨0, 0, 0⟩ : T_Rest), [], [], 0, ([] : List UInt8)⟩ : T_Accept), 1)) ((I_Permits k r26.1.Rest v19 r26.2.2.1 v20).bind fun r31 => cond (!r31) ((I_copyCache k v24).bind fun r32 => some (r32, (⟨0, 0, 0, 0, 0, (⟨0, 0, 0⟩ : T_Auth), (⟨0, 0, 0⟩ : T_Rest), [], [], 0, ([] : List UInt8)⟩ : T_Accept), 2)) ((I_CacheTry k v24 r26.2.1 v20 v23.Skew).bind fun r33 => cond (r33.2 != 0) ((I_copyCache k v24).bind fun r35 => some (r35, (⟨0, 0, 0, 0, 0, (⟨0, 0, 0⟩ : T_Auth), (⟨0, 0, 0⟩ : T_Rest), [], [], 0, ([] : List UInt8)⟩ : T_Accept), (IntKind.i64.wrap (10 + r33.2)))) ((I_copyInts k r26.1.Path).bind fun r36 => (I_copyInts k r26.1.Via).bind fun r37 => some (r33.1, (⟨v19, r26.1.Client, r26.1.Key, r26.2.2.1, v20, r26.2.1, r26.1.Rest, r36, r37, 0, r26.2.2.2.1⟩ : T_Accept), 0)))))
def I_Serve (k : Nat) (a0 : T_Config) (a1 a2 : Int) (a3 : T_Cache) (a4 : List UInt8) : Option (T_Cache × T_Accept × Int) := (I_CacheOk k a3).bind fun r2 => cond (!r2) (some ((⟨0, []⟩ : T_Cache), (⟨0, 0, 0, 0, 0, (⟨0, 0, 0⟩ : T_Auth), (⟨0, 0, 0⟩ : T_Rest), [], [], 0, ([] : List UInt8)⟩ : T_Accept), 1)) ((I_ConfigOk k a0).bind fun r38 => cond (!r38) (I_Serve.j2 k a1 a2 a4 true a0 a3) ((I_isService k a1).bind fun r39 => cond (!r39) (I_Serve.j2 k a1 a2 a4 true a0 a3) ((I_isTime k a2).bind fun r40 => I_Serve.j2 k a1 a2 a4 (!r40) a0 a3)))
theorem ent191 : MG.Enters Tryz.prog 191 := en func191
theorem g191 (k : Nat) (g0 g1 g2 g3 g4 : Bool) (a0 : T_Config) (a1 a2 : Int) (a3 : T_Cache) (a4 : List UInt8) (r : T_Cache × T_Accept × Int) (H : I_Serve k a0 a1 a2 a3 a4 = some r) : Gives Tryz.prog 191 [V.agg (bT_Config g0 g1 g2 g3 a0), V.one (cI a1), V.one (cI a2), V.agg [cI a3.Quiet, Cell.sl g4 (List.map eT_Auth a3.Seen)], V.one (cS a4)] [] [V.agg [cI r.1.Quiet, Cell.ow 3 (List.map eT_Auth r.1.Seen)], V.agg [cI r.2.1.Server, cI r.2.1.Client, cI r.2.1.Key, cI r.2.1.Op, cI r.2.1.Now, cI r.2.1.Auth.Client, cI r.2.1.Auth.Time, cI r.2.1.Auth.Seq, cI r.2.1.Rest.Servers, cI r.2.1.Rest.Ops, cI r.2.1.Rest.End, Cell.ow 1 (List.map eI r.2.1.Path), Cell.ow 1 (List.map eI r.2.1.Via), cI r.2.1.Leaks, cS r.2.1.Ticket], V.one (cI r.2.2)] [] := by
 refine Gives.intro func191 rfl rfl rfl rfl ?_; refine fx fun w0 T S0 ob oh hm => ?_
 have hF := fxe w0 T S0 100 ob oh
 unfold I_Serve at H; obtain ⟨K, hK⟩ := leK k; refine sr ?_; refine bo 10 ?_; refine bo 11 ?_; refine alc 12 info123 ?_; refine alc 13 info58 ?_; refine gn 1 ?_; refine WpC.seq (sr ?_); refine lp shape123 ?_; refine cB 14 ent110 (g110 k g4 a3) H fun r2 H => ?_; refine gn 1 ?_; refine cd H (fun hc H => ?_) (fun hc H => ?_)
 ·refine sr ?_; refine bf built123 ?_; refine bf built58 ?_; refine gn 3 ?_; refine WpC.le (Le.ownB 12 1 15 3 rfl rfl rfl) ?_; refine WpC.le (Le.ownB 13 11 16 1 rfl rfl rfl) ?_; refine WpC.le (Le.ownB 13 12 17 1 rfl rfl rfl) ?_; cases H; exact WpC.ret rt
 ·refine WpC.skip (WpC.seq ?_); refine WpC.join (fun σ => ∃ (kj2 : Nat) (v19 v20 : Int) (v21 : List UInt8) (v22 : Bool) (v23 : T_Config) (v24 : T_Cache), kj2 ≤ K ∧ I_Serve.j2 kj2 v19 v20 v21 v22 v23 v24 = some r ∧ σ = mkSt [(1, oI v19), (2, oI v20), (4, oS v21), (5, oP 0 0), (8, oP 1 0), (10, oP 2 0), (11, oP 3 0), (37, oL v22)] [] [(0, (bT_Config g0 g1 g2 g3 v23)), (1, [cI v24.Quiet, Cell.sl g4 (List.map eT_Auth v24.Seen)]), (2, [cI 0, Cell.nil]), (3, [cI 0, cI 0, cI 0, cI 0, cI 0, cI 0, cI 0, cI 0, cI 0, cI 0, cI 0, Cell.nil, Cell.nil, cI 0, cS ([] : List UInt8)])] 4) ?_ ?_
  ·rintro _ ⟨kj2, v19, v20, v21, v22, v23, v24, hkj2, H, rfl⟩
   unfold I_Serve.j2 at H; refine cd H (fun hc H => ?_) (fun hc H => ?_)
   ·refine sy 1 ?_; refine cB 4 ent132 (g132 kj2 g4 v24) H fun r25 H => ?_; refine bf built58 ?_; refine gn 3 ?_; refine WpC.le (Le.ownB 3 11 6 1 rfl rfl rfl) ?_; refine WpC.le (Le.ownB 3 12 7 1 rfl rfl rfl) ?_; cases H; exact WpC.ret rt
   ·refine WpC.skip (sr ?_); refine go 2 ?_; refine cB 4 ent228 (g228 kj2  v19 v21) H fun r26 H => ?_; refine go 6 ?_; refine alc 18 info235 ?_; refine alc 19 info56 ?_; refine gn 5 ?_; refine WpC.seq (sr ?_); refine gn 2 ?_; refine cd H (fun hc H => ?_) (fun hc H => ?_)
    ·refine sy 1 ?_; refine cB 20 ent132 (g132 kj2 g4 v24) H fun r28 H => ?_; refine bf built58 ?_; refine gn 3 ?_; refine WpC.le (Le.ownB 3 11 22 1 rfl rfl rfl) ?_; refine WpC.le (Le.ownB 3 12 23 1 rfl rfl rfl) ?_; cases H; exact WpC.ret rt
    ·refine WpC.skip (WpC.seq (sr ?_)); refine go 5 ?_; refine cB 20 ent211 (g211 kj2  r26.1.Rest v19 r26.2.2.1 v20) H fun r31 H => ?_; refine gn 1 ?_; refine cd H (fun hc H => ?_) (fun hc H => ?_)
     ·refine sy 1 ?_; refine cB 21 ent132 (g132 kj2 g4 v24) H fun r32 H => ?_; refine bf built58 ?_; refine gn 3 ?_; refine WpC.le (Le.ownB 3 11 23 1 rfl rfl rfl) ?_; refine WpC.le (Le.ownB 3 12 24 1 rfl rfl rfl) ?_; cases H; exact WpC.ret rt
     ·refine WpC.skip (sr ?_); refine go 5 ?_; refine cB 21 ent229 (g229 kj2 g4 v24 r26.2.1 v20 v23.Skew) H fun r33 H => ?_; refine go 3 ?_; refine alc 24 info123 ?_; refine gn 2 ?_; refine WpC.seq (sr ?_); refine gn 2 ?_; refine cd H (fun hc H => ?_) (fun hc H => ?_)
      ·refine sy 1 ?_; refine cB 25 ent132 (g132 kj2 g4 v24) H fun r35 H => ?_; refine bf built58 ?_; refine gn 5 ?_; refine WpC.le (Le.ownB 3 11 27 1 rfl rfl rfl) ?_; refine WpC.le (Le.ownB 3 12 28 1 rfl rfl rfl) ?_; cases H; exact WpC.ret rt
      ·refine WpC.skip (WpC.seq ?_); obtain ⟨r36, hr36, H⟩ := bindS H; obtain ⟨r37, hr37, H⟩ := bindS H
       apply ldT ⟨[e0 1 _, e0 2 _, e0 10 _, e0 11 _, ed 12 22 _, e0 13 _, e0 14 _, e0 15 _, e0 16 _, e0 18 _, ed 81 1 _, ed 82 2 _, ed 83 3 _, ed 84 4 _, ed 85 5 _, ed 86 6 _, ed 87 7 _, ed 88 8 _, ed 89 9 _, ed 90 10 _, ed 91 11 _, ed 92 12 _, ed 93 13 _, ed 94 14 _, ed 95 15 _, ed 96 16 _, ed 97 17 _, ed 98 18 _, ed 99 19 _], [e0 10 _, e0 11 _, e0 22 _, ed 25 14 _, ed 26 17 _], [(2, [(20, some _), (0, some _)]), (3, [(21, some _), (0, some _)]), e0 18 _, e0 19 _, e0 24 _], 27, []⟩ [(0, 3670016), (0, 3407872), (0, 3407880), (4, 3407872), (0, 3407904), (16, 3407872), (0, 3407872), (0, 3407872), (0, 3407872), (0, 3408896), (512, 3407872), (0, 4009984), (2048, 4005888), (6144, 3997696), (0, 4030464), (16384, 3997696), (63488, 3932160), (0, 3407872), (262142, 3145728), (129025, 3145728), (1048575, 2097152), (2097151, 0)] mixed ?L1 ?_
       case L1 =>
        repeat refine ls ?_
        apply lc 27 25 1 [94] [25] [] ?h1_13 ?q1_13 ?_
        case h1_13 =>
         intro b; refine ca [false] [10] [] 27 ent98 (g98 kj2 false r26.1.Path r36 hr36) ?_; exact L.nil ⟨rfl, rfl, rfl, rfl⟩
        case' q1_13 => skip
        repeat refine ls ?_
        apply lc 27 26 1 [97] [26] [] ?h1_16 ?q1_16 ?_
        case h1_16 =>
         intro b; refine ca [false] [11] [] 27 ent98 (g98 kj2 false r26.1.Via r37 hr37) ?_; exact L.nil ⟨rfl, rfl, rfl, rfl⟩
        case' q1_16 => skip
        repeat refine ls ?_
        apply lc 27 27 0 [99] [] [] ?h1_18 ?q1_18 ?_
        case h1_18 =>
         intro b; refine bf built58 ?_; exact L.nil ⟨rfl, rfl, rfl, rfl⟩
        case' q1_18 => skip
        refine lb ?_; refine lb ?_
        repeat refine ls ?_
        exact trivial
        all_goals exact lq
       cases H; exact WpC.ret rt
  ·refine WpC.regionL ?_; refine lp shape27 ?_; refine cB 15 ent54 (g54 k g0 g1 g2 g3 a0) H fun r38 H => ?_; refine go 2 ?_; refine sH H (fun hc H => ?_) (fun hc H => ?_)
   ·refine gn 9 ?_; exact ⟨_, ⟨k, a1, a2, a4, true, a0, a3, by omega, H, rfl⟩, lm [(0, 10), (1, 11), (2, 12), (3, 13)] hm⟩
   ·refine mv ?_; refine cB 16 ent55 (g55 k  a1) H fun r39 H => ?_; refine go 3 ?_; refine sH H (fun hc H => ?_) (fun hc H => ?_)
    ·refine gn 4 ?_; exact ⟨_, ⟨k, a1, a2, a4, true, a0, a3, by omega, H, rfl⟩, lm [(0, 10), (1, 11), (2, 12), (3, 13)] hm⟩
    ·refine mv ?_; refine cB 17 ent105 (g105 k  a2) H fun r40 H => ?_; refine gn 2 ?_; exact ⟨_, ⟨k, a1, a2, a4, (!r40), a0, a3, by omega, H, rfl⟩, lm [(0, 10), (1, 11), (2, 12), (3, 13)] hm⟩
/-! ### I_World_serve -/
def I_World_serve (k : Nat) (a1 : T_Act) (o0 : T_World) : Option (Int × T_World) := (I_World_message k a1.B o0).bind fun r1 => (I_isService k a1.A).bind fun r5 => cond (!r5) (some (2, o0)) (cond (!r1.2) (some (2, o0)) ((at? o0.Caches a1.A).bind fun b6 => (I_Serve k o0.Config a1.A o0.Now b6 r1.1).bind fun r7 => cond (r7.2.2 != 0) (some (3, (⟨o0.Config, o0.Now, o0.Fresh, o0.Net, o0.Known, o0.Waits, o0.Creds, (o0.Caches.set a1.A.toNat b6), o0.Log, o0.Accepts, o0.Leaked⟩ : T_World))) (cond ((o0.Accepts.length : Int) == 40) (some (3, (⟨o0.Config, o0.Now, o0.Fresh, o0.Net, o0.Known, o0.Waits, o0.Creds, (o0.Caches.set a1.A.toNat b6), o0.Log, o0.Accepts, o0.Leaked⟩ : T_World))) ((at? (o0.Caches.set a1.A.toNat b6) a1.A).bind fun b8 => cond (decide ((2 * (o0.Accepts.length + ([(⟨r7.2.1.Server, r7.2.1.Client, r7.2.1.Key, r7.2.1.Op, r7.2.1.Now, r7.2.1.Auth, r7.2.1.Rest, r7.2.1.Path, r7.2.1.Via, (o0.Leaked.length : Int), r7.2.1.Ticket⟩ : T_Accept)] : List T_Accept).length) + 192) * 160 ≤ 281474976710656)) (some (0, (⟨o0.Config, o0.Now, o0.Fresh, o0.Net, o0.Known, o0.Waits, o0.Creds, (o0.Caches.set a1.A.toNat r7.1), o0.Log, (o0.Accepts ++ ([(⟨r7.2.1.Server, r7.2.1.Client, r7.2.1.Key, r7.2.1.Op, r7.2.1.Now, r7.2.1.Auth, r7.2.1.Rest, r7.2.1.Path, r7.2.1.Via, (o0.Leaked.length : Int), r7.2.1.Ticket⟩ : T_Accept)] : List T_Accept)), o0.Leaked⟩ : T_World))) none))))
theorem ent139 : MG.Enters Tryz.prog 139 := en func139
theorem g139 (k : Nat) (a1 : T_Act) (o0 : T_World) (r : Int × T_World) (H : I_World_serve k a1 o0 = some r) : Gives Tryz.prog 139 [V.one (Cell.ptr 0 0), V.agg (bT_Act a1)] [[Cell.ow 1 (List.map eI o0.Config.UserRealm), Cell.ow 1 (List.map eI o0.Config.ServiceRealm), Cell.ow 2 (List.map eT_Pair o0.Config.Links), Cell.ow 2 (List.map eT_Pair o0.Config.Proxy), cI o0.Config.Skew, cI o0.Now, cI o0.Fresh, Cell.ow 1 (List.map eS o0.Net), Cell.ow 1 (List.map eS o0.Known.Terms), Cell.ow 1 (List.map eI o0.Known.Keys), Cell.ow 4 (List.map eT_Wait o0.Waits), Cell.ow 8 (List.map eT_Cred o0.Creds), Cell.ow 2 (List.map eT_Cache o0.Caches), Cell.ow 11 (List.map eT_Event o0.Log), Cell.ow 15 (List.map eT_Accept o0.Accepts), Cell.ow 1 (List.map eI o0.Leaked)]] [V.one (cI r.1)] [[Cell.ow 1 (List.map eI r.2.Config.UserRealm), Cell.ow 1 (List.map eI r.2.Config.ServiceRealm), Cell.ow 2 (List.map eT_Pair r.2.Config.Links), Cell.ow 2 (List.map eT_Pair r.2.Config.Proxy), cI r.2.Config.Skew, cI r.2.Now, cI r.2.Fresh, Cell.ow 1 (List.map eS r.2.Net), Cell.ow 1 (List.map eS r.2.Known.Terms), Cell.ow 1 (List.map eI r.2.Known.Keys), Cell.ow 4 (List.map eT_Wait r.2.Waits), Cell.ow 8 (List.map eT_Cred r.2.Creds), Cell.ow 2 (List.map eT_Cache r.2.Caches), Cell.ow 11 (List.map eT_Event r.2.Log), Cell.ow 15 (List.map eT_Accept r.2.Accepts), Cell.ow 1 (List.map eI r.2.Leaked)]] := by
 refine Gives.intro func139 rfl rfl rfl rfl ?_; refine fx fun w0 T S0 ob oh hm => ?_
 have hF := fxe w0 T S0 83 ob oh
 unfold I_World_serve at H; obtain ⟨K, hK⟩ := leK k; refine sr ?_; refine bo 27 ?_; refine gn 1 ?_; refine sy 3 ?_; obtain ⟨r1, hr1, H⟩ := bindS H; refine ca [false, false] [] [0] 28 ent180 (g180 k  a1.B o0 r1 hr1) ?_; refine gn 5 ?_; refine WpC.seq (sr ?_); refine go 2 ?_; refine cB 46 ent55 (g55 k  a1.A) H fun r5 H => ?_; refine go 2 ?_; refine sH H (fun hc H => ?_) (fun hc H => ?_)
 ·refine gn 3 ?_; refine cT ?_; refine sg 1 ?_; cases H; exact WpC.ret rt
 ·refine gn 3 ?_; refine cd H (fun hc H => ?_) (fun hc H => ?_)
  ·refine sg 1 ?_; cases H; exact WpC.ret rt
  ·refine WpC.skip (WpC.seq ?_); obtain ⟨b6, hb6, H⟩ := bindS H; obtain ⟨r7, hr7, H⟩ := bindS H; refine WpC.out (xs := o0.Caches) (e := eT_Cache) (a := b6) 42 a1.A.toNat 1 47 rfl (at?_get hb6).2 rfl rfl (fun ub6 => ?_)
   apply ldT ⟨[e0 0 _, e0 3 _, e0 5 _, ed 7 25 _, ed 8 26 _, ed 9 29 _, ed 25 21 _, ed 26 1 _, ed 27 2 _, ed 28 3 _, ed 29 4 _, ed 30 5 _, ed 31 6 _, ed 32 7 _, ed 33 8 _, ed 34 9 _, ed 35 10 _, ed 36 11 _, ed 37 12 _, ed 38 13 _, ed 39 14 _, ed 40 15 _, ed 41 16 _, ed 42 17 _, ed 43 18 _, ed 44 19 _, ed 45 20 _, ed 46 22 _, ed 47 23 _, ed 48 24 _], [e0 30 _, e0 31 _, e0 32 _, e0 33 _, e0 37 _, e0 38 _, e0 39 _, e0 40 _, e0 41 _, (42, [(0, some ⟨2, (List.map eT_Cache o0.Caches).set a1.A.toNat ((eT_Cache b6).set 1 (Cell.raw ub6))⟩)]), e0 43 _, e0 44 _, e0 45 _, e0 47 _, ed 49 20 _, ed 61 20 _, ed 62 20 _], [e0 0 _, e0 27 _, (66, [(27, some _), (25, some _)]), (67, [(28, some _), (26, some _)])], 68, [(47, ub6)]⟩ [(0, 486014990), (1, 486014988), (3, 486014984), (7, 486014976), (0, 486015008), (16, 486014976), (0, 486015872), (64, 486015744), (192, 486015488), (448, 486014976), (0, 486225920), (1024, 486223872), (3072, 486219776), (7168, 486211584), (0, 486244352), (16384, 486211584), (64512, 486146048), (130048, 486014976), (0, 486014976), (524287, 485490688), (1048575, 484442112), (2097151, 469762048), (2097151, 402653184), (2097151, 268435456), (0, 469762048), (0, 469762048), (54525951, 402653184), (125829119, 268435456), (268435455, 0)] mixed ?L1 ?_
   case L1 =>
    repeat refine ls ?_
    apply lc 68 48 0 [42] [] [] ?h1_16 ?q1_16 ?_
    case h1_16 =>
     intro b; refine L.idxRH (xs := o0.Caches) (e := eT_Cache) underlying39 info123 hF rfl rfl rfl rfl rfl hb6 rfl rfl ?_; exact L.nil ⟨rfl, rfl, rfl, rfl⟩
    case' q1_16 => skip
    apply lc 68 48 0 [43] [] [] ?h1_17 ?q1_17 ?_
    case h1_17 =>
     intro b; refine L.loadEpR (xs := o0.Caches) (e := eT_Cache) 1 47 shape123 hF rfl rfl rfl rfl (at?_get hb6).2 rfl rfl rfl rfl rfl ?_; exact L.nil ⟨rfl, rfl, rfl, rfl⟩
    case' q1_17 => skip
    repeat refine ls ?_
    apply lc 68 48 18 [45] [49, 61, 62] [] ?h1_19 ?q1_19 ?_
    case h1_19 =>
     intro b; refine ca [false, false, false, false, false] [30, 31, 32, 33, 47] [] 68 ent191 (g191 k false false false false false o0.Config a1.A o0.Now b6 r1.1 r7 hr7) ?_; exact L.nil ⟨rfl, rfl, rfl, rfl⟩
    case' q1_19 => skip
    repeat refine ls ?_
    apply lc 68 66 1 [7] [] [66] ?h1_24 ?q1_24 ?_
    case h1_24 =>
     intro b; refine alc 68 info123 ?_; exact L.nil ⟨rfl, rfl, rfl, rfl⟩
    case' q1_24 => skip
    apply lc 68 67 1 [8] [] [67] ?h1_25 ?q1_25 ?_
    case h1_25 =>
     intro b; refine alc 68 info58 ?_; exact L.nil ⟨rfl, rfl, rfl, rfl⟩
    case' q1_25 => skip
    refine lb ?_; refine lb ?_
    repeat refine ls ?_
    exact trivial
    all_goals exact lq
   refine WpC.seq (sr ?_); refine go 3 ?_; refine sH H (fun hc H => ?_) (fun hc H => ?_)
   ·refine go 7 ?_; refine L.le (Le.back (xs := o0.Caches) (e := eT_Cache) (a' := b6) 42 a1.A.toNat 1 47 rfl (at?_get hb6).2 rfl rfl rfl rfl rfl) ?_; refine L.nil ?_; refine cT ?_; refine sg 1 ?_; cases H; exact WpC.ret rt
   ·refine mv ?_; refine L.nilCheck hF rfl rfl rfl rfl ?_; refine go 2 ?_; refine L.lenR (xs := o0.Accepts) (e := eT_Accept) underlying41 hF rfl rfl rfl rfl ?_; refine go 2 ?_; refine L.le (Le.back (xs := o0.Caches) (e := eT_Cache) (a' := b6) 42 a1.A.toNat 1 47 rfl (at?_get hb6).2 rfl rfl rfl rfl rfl) ?_; refine L.nil ?_; refine cd H (fun hc H => ?_) (fun hc H => ?_)
    ·refine sg 1 ?_; cases H; exact WpC.ret rt
    ·refine WpC.skip (sr ?_); refine mv ?_; refine L.nilCheck hF rfl rfl rfl rfl ?_; refine go 2 ?_; refine L.lenR (xs := o0.Leaked) (e := eI) underlying24 hF rfl rfl rfl rfl ?_; refine gn 2 ?_; refine WpC.seq ?_; obtain ⟨b8, hb8, H⟩ := bindS H
     apply ldT ⟨[e0 0 _, e0 3 _, e0 7 _, e0 8 _, ed 65 1 _, ed 66 2 _, ed 67 3 _, ed 68 4 _, ed 69 5 _, ed 70 6 _, ed 71 7 _, ed 72 8 _], [e0 30 _, e0 31 _, e0 32 _, e0 33 _, e0 37 _, e0 38 _, e0 39 _, e0 40 _, e0 41 _, (42, [(9, some _), (0, some _)]), e0 43 _, e0 44 _, e0 45 _, (49, [(9, none), (0, some _)]), e0 61 _, e0 62 _], [e0 0 _, e0 27 _, e0 66 _, e0 67 _], 68, []⟩ [(0, 398), (1, 396), (3, 392), (7, 384), (0, 416), (16, 384), (0, 384), (127, 256), (255, 0)] mixed ?L2 ?_
     case L2 =>
      repeat refine ls ?_
      apply lc 68 68 0 [72] [] [] ?h2_7 ?q2_7 ?_
      case h2_7 =>
       intro b; refine ix underlying39 info123 hb8 ?_; exact L.nil ⟨rfl, rfl, rfl, rfl⟩
      case' q2_7 => skip
      apply lc 68 68 0 [] [42] [] ?h2_8 ?q2_8 ?_
      case h2_8 =>
       intro b; refine L.storeEpN (xs := (o0.Caches.set a1.A.toNat b6)) (e := eT_Cache) (a' := r7.1) 3 shape123 hF rfl rfl rfl rfl rfl rfl rfl (at?_get hb8).2 rfl rfl ?_; refine L.le (Le.ss 42 rfl) ?_; exact L.nil ⟨rfl, rfl, rfl, rfl⟩
      case' q2_8 => skip
      exact trivial
      all_goals exact lq
     refine WpC.seq ?_; obtain ⟨h9, H⟩ := condG H
     apply ldT ⟨[e0 0 _, e0 8 _, ed 73 1 _, ed 74 2 _, ed 75 3 _, ed 76 4 _, ed 77 5 _, ed 78 6 _, ed 79 7 _, ed 80 8 _, ed 81 9 _, ed 82 10 _], [e0 30 _, e0 31 _, e0 32 _, e0 33 _, e0 37 _, e0 38 _, e0 39 _, e0 40 _, e0 41 _, e0 42 _, e0 43 _, (44, [(8, none), (0, some _)]), e0 45 _, (61, [(7, none), (0, some _)]), (62, [(7, none), (0, some _)]), (68, [(8, none), (7, some _)]), ed 69 8 _], [(0, [(11, some _), (0, some _)]), e0 67 _], 70, []⟩ [(0, 1792), (0, 1948), (2, 1944), (6, 1936), (14, 1920), (0, 1984), (32, 1920), (126, 1792), (255, 1536), (511, 1024), (1023, 0)] mixed ?L3 ?_
     case L3 =>
      repeat refine ls ?_
      apply lc 70 68 1 [79] [68] [] ?h3_6 ?q3_6 ?_
      case h3_6 =>
       intro b; refine L.buildSliceN (e := eT_Accept) 1 70 ([(⟨r7.2.1.Server, r7.2.1.Client, r7.2.1.Key, r7.2.1.Op, r7.2.1.Now, r7.2.1.Auth, r7.2.1.Rest, r7.2.1.Path, r7.2.1.Via, (o0.Leaked.length : Int), r7.2.1.Ticket⟩ : T_Accept)] : List T_Accept) underlying41 info58 rfl rfl rfl hF rfl rfl rfl rfl rfl rfl rfl rfl ?_; exact L.nil ⟨rfl, rfl, rfl, rfl⟩
      case' q3_6 => skip
      apply lc 70 69 1 [80] [69] [] ?h3_7 ?q3_7 ?_
      case h3_7 =>
       intro b; refine L.appendN (xs := o0.Accepts) (ys := ([(⟨r7.2.1.Server, r7.2.1.Client, r7.2.1.Key, r7.2.1.Op, r7.2.1.Now, r7.2.1.Auth, r7.2.1.Rest, r7.2.1.Path, r7.2.1.Via, (o0.Leaked.length : Int), r7.2.1.Ticket⟩ : T_Accept)] : List T_Accept)) (e := eT_Accept) 70 underlying41 info58 rfl rfl hF rfl rfl rfl rfl rfl rfl rfl rfl rfl (fun _ _ h1 h2 => by cases h1; cases h2; rfl) underlying41 (of_decide_eq_true h9) rfl rfl ?_; exact L.nil ⟨rfl, rfl, rfl, rfl⟩
      case' q3_7 => skip
      repeat refine ls ?_
      refine lb ?_; exact trivial
      all_goals exact lq
     refine sg 1 ?_; cases H; exact WpC.ret rt
/-! ### I_isLong -/
def I_isLong.j50 (cl49 : Int → Int → Int → Option Bool) (k : Nat) (v318 v319 v320 : Int) : Option Bool := cl49 v318 v319 (IntKind.i64.wrap (v320 + 1))
def I_isLong.l49 (cl42 : Int → Int → Option Bool) : Nat → Int → Int → Int → Option Bool
 | 0, _, _, _ => none
 | k49 + 1, v313, v314, v315 => cond (decide (v315 < 3)) (cond (v314 != v315) ((I_LinkKey k49 v314 v315).bind fun r322 => cond (r322 == v313) (some true) (I_isLong.j50 (I_isLong.l49 cl42 k49) k49 v313 v314 v315)) (I_isLong.j50 (I_isLong.l49 cl42 k49) k49 v313 v314 v315)) (cl42 v313 (IntKind.i64.wrap (v314 + 1)))
def I_isLong.l42 : Nat → Int → Int → Option Bool
 | 0, _, _ => none
 | k42 + 1, v265, v266 => cond (decide (v266 < 3)) (I_isLong.l49 (I_isLong.l42 k42) k42 v265 v266 0) ((I_within k42 v265 1 3).bind fun r326 => cond r326 (some true) ((I_within k42 v265 11 13).bind fun r327 => cond r327 (some true) ((I_within k42 v265 21 23).bind fun r328 => some r328)))
def I_isLong (k : Nat) (a0 : Int) : Option Bool := I_isLong.l42 k a0 0
theorem ent192 : MG.Enters Tryz.prog 192 := en func192
theorem g192 (k : Nat) (a0 : Int) (r : Bool) (H : I_isLong k a0 = some r) : Gives Tryz.prog 192 [V.one (cI a0)] [] [V.one (cL r)] [] := by
 refine Gives.intro func192 rfl rfl rfl rfl ?_; refine fx fun w0 T S0 ob oh hm => ?_
 have hF := fxe w0 T S0 33 ob oh
 unfold I_isLong at H; obtain ⟨K, hK⟩ := leK k; refine sg 1 ?_; refine WpC.seq (sr ?_); refine gn 1 ?_; refine WpC.block ?_; refine WpC.loopL (P := Tryz.prog) (fun n σ => ∃ v265 v266 : Int, n ≤ K ∧ I_isLong.l42 n v265 v266 = some r ∧ σ = mkSt [(0, oI v265), (5, oI v266)] [] [] 0) k ⟨_, ⟨a0, 0, by omega, H, rfl⟩, lm [] hm⟩ ?_; clear H
 rintro k42 _ ⟨v265, v266, hk42, H, rfl⟩
 cases k42 with
 | zero => cases H
 | succ k42 =>
  rw [I_isLong.l42] at H
  refine sg 1 ?_; refine WpC.seq ?_; refine cd H (fun hc H => ?_) (fun hc H => ?_)
  ·refine WpC.skip (WpC.seq (WpC.block (sr ?_))); refine gn 2 ?_; refine sg 1 ?_; refine WpC.block ?_; refine WpC.loopL (P := Tryz.prog) (fun n σ => ∃ v313 v314 v315 : Int, n ≤ K ∧ I_isLong.l49 (I_isLong.l42 k42) n v313 v314 v315 = some r ∧ σ = mkSt [(0, oI v313), (3, oI v314), (5, oI v314), (8, oI v315)] [] [] 0) k42 ⟨_, ⟨v265, v266, 0, by omega, H, rfl⟩, lm [] hm⟩ ?_; clear H
   rintro k49 _ ⟨v313, v314, v315, hk49, H, rfl⟩
   cases k49 with
   | zero => cases H
   | succ k49 =>
    rw [I_isLong.l49] at H
    refine sg 1 ?_; refine WpC.seq ?_; refine cd H (fun hc H => ?_) (fun hc H => ?_)
    ·refine WpC.skip ?_; refine WpC.join (fun σ => ∃ (kj50 : Nat) (v318 v319 v320 : Int), kj50 ≤ K ∧ I_isLong.j50 (I_isLong.l49 (I_isLong.l42 k42) k49) kj50 v318 v319 v320 = some r ∧ σ = mkSt [(0, oI v318), (3, oI v319), (5, oI v319), (8, oI v320)] [] [] 0) ?_ ?_
     ·rintro _ ⟨kj50, v318, v319, v320, hkj50, H, rfl⟩
      unfold I_isLong.j50 at H; refine WpC.regionL ?_; refine gn 2 ?_; exact ⟨k49, _, by omega, ⟨v318, v319, (IntKind.i64.wrap (v320 + 1)), by omega, H, rfl⟩, lm [] hm⟩
     ·refine WpC.block (sr ?_); refine gn 2 ?_; refine sy 4 ?_; refine sH H (fun hc H => ?_) (fun hc H => ?_)
      ·refine go 2 ?_; refine cB 0 ent72 (g72 k49  v314 v315) H fun r322 H => ?_; refine gn 3 ?_; refine cd H (fun hc H => ?_) (fun hc H => ?_)
       ·refine sg 1 ?_; cases H; exact WpC.ret rt
       ·refine WpC.skip ?_; exact ⟨_, ⟨k49, v313, v314, v315, by omega, H, rfl⟩, lm [] hm⟩
      ·refine gn 6 ?_; refine cF ?_; refine WpC.skip ?_; exact ⟨_, ⟨k49, v313, v314, v315, by omega, H, rfl⟩, lm [] hm⟩
    ·refine WpC.exit (WpC.regionL ?_); refine gn 2 ?_; exact ⟨k42, _, by omega, ⟨v313, (IntKind.i64.wrap (v314 + 1)), by omega, H, rfl⟩, lm [] hm⟩
  ·refine WpC.exit (sr ?_); refine mv ?_; refine cB 0 ent52 (g52 k42  v265 1 3) H fun r326 H => ?_; refine mv ?_; refine sH H (fun hc H => ?_) (fun hc H => ?_)
   ·refine gn 8 ?_; cases H; exact WpC.ret rt
   ·refine mv ?_; refine cB 1 ent52 (g52 k42  v265 11 13) H fun r327 H => ?_; refine go 2 ?_; refine sH H (fun hc H => ?_) (fun hc H => ?_)
    ·refine gn 4 ?_; cases H; exact WpC.ret rt
    ·refine mv ?_; refine cB 2 ent52 (g52 k42  v265 21 23) H fun r328 H => ?_; refine gn 2 ?_; cases H; exact WpC.ret rt
/-! ### V_Index_int -/
def V_Index_int.l2 : Nat → (List Int) → Int → Int → Int → Option Int
 | 0, _, _, _, _ => none
 | k2 + 1, v29, v30, v31, v32 => cond (decide (v32 < v31)) ((at? v29 v32).bind fun b34 => cond (v30 == b34) (some v32) ((V_Index_int.l2 k2) v29 v30 v31 (IntKind.i64.wrap (v32 + 1)))) (some (-1))
def V_Index_int (k : Nat) (a0 : List Int) (a1 : Int) : Option Int := V_Index_int.l2 k a0 a1 (a0.length : Int) 0
theorem ent99 : MG.Enters Tryz.prog 99 := en func99
theorem g99 (k : Nat) (g0 : Bool) (a0 : List Int) (a1 r : Int) (H : V_Index_int k a0 a1 = some r) : Gives Tryz.prog 99 [V.one (Cell.sl g0 (List.map eI a0)), V.one (cI a1)] [] [V.one (cI r)] [] := by
 refine Gives.intro func99 rfl rfl rfl rfl ?_; refine fx fun w0 T S0 ob oh hm => ?_
 have hF := fxe w0 T S0 19 ob oh
 unfold V_Index_int at H; obtain ⟨K, hK⟩ := leK k; refine sg 1 ?_; refine WpC.seq (sr ?_); refine mv ?_; refine L.lenR (xs := a0) (e := eI) underlying24 hF rfl rfl rfl rfl ?_; refine gn 1 ?_; refine WpC.block ?_; refine WpC.loopL (P := Tryz.prog) (fun n σ => ∃ (v29 : List Int) (v30 v31 v32 : Int), n ≤ K ∧ V_Index_int.l2 n v29 v30 v31 v32 = some r ∧ σ = mkSt [(0, MG.one (Cell.sl g0 (List.map eI v29))), (1, oI v30), (7, oI v31), (8, oI v32)] [] [] 0) k ⟨_, ⟨a0, a1, (a0.length : Int), 0, by omega, H, rfl⟩, lm [] hm⟩ ?_; clear H
 rintro k2 _ ⟨v29, v30, v31, v32, hk2, H, rfl⟩
 cases k2 with
 | zero => cases H
 | succ k2 =>
  rw [V_Index_int.l2] at H
  refine sg 1 ?_; refine WpC.seq ?_; refine cd H (fun hc H => ?_) (fun hc H => ?_)
  ·refine WpC.skip (WpC.seq (WpC.block (sr ?_))); refine gn 2 ?_; refine sy 3 ?_; obtain ⟨b34, hb34, H⟩ := bindS H; refine ix underlying24 info3 hb34 ?_; refine gn 2 ?_; refine cd H (fun hc H => ?_) (fun hc H => ?_)
   ·refine sg 2 ?_; cases H; exact WpC.ret rt
   ·refine WpC.skip (WpC.regionL ?_); refine gn 2 ?_; exact ⟨k2, _, by omega, ⟨v29, v30, v31, (IntKind.i64.wrap (v32 + 1)), by omega, H, rfl⟩, lm [] hm⟩
  ·refine WpC.exit (sr ?_); refine gn 1 ?_; cases H; exact WpC.ret rt
/-! ### V_Contains_int -/
def V_Contains_int (k : Nat) (a0 : List Int) (a1 : Int) : Option Bool := (V_Index_int k a0 a1).bind fun r1 => some (decide (r1 ≥ 0))
theorem ent51 : MG.Enters Tryz.prog 51 := en func51
theorem g51 (k : Nat) (g0 : Bool) (a0 : List Int) (a1 : Int) (r : Bool) (H : V_Contains_int k a0 a1 = some r) : Gives Tryz.prog 51 [V.one (Cell.sl g0 (List.map eI a0)), V.one (cI a1)] [] [V.one (cL r)] [] := by
 refine Gives.intro func51 rfl rfl rfl rfl ?_; refine fx fun w0 T S0 ob oh hm => ?_
 have hF := fxe w0 T S0 9 ob oh
 unfold V_Contains_int at H; obtain ⟨K, hK⟩ := leK k; refine sg 1 ?_; refine sy 2 ?_; refine cB 2 ent99 (g99 k g0 a0 a1) H fun r1 H => ?_; refine gn 2 ?_; cases H; exact WpC.ret rt
/-! ### I_LearnKey -/
theorem ent48 : MG.Enters Tryz.prog 48 := en func48
def I_LearnKey.j2 (k : Nat) (v15 : Int) (v16 : Bool) (v17 : T_Known) : Option T_Known := cond v16 (cond (decide ((2 * (v17.Keys.length + ([v15] : List Int).length) + 192) * 8 ≤ 281474976710656)) ((V_Sort_int k (v17.Keys ++ ([v15] : List Int))).bind fun r19 => some (⟨v17.Terms, r19⟩ : T_Known)) none) (some v17)
def I_LearnKey (k : Nat) (a0 : T_Known) (a1 : Int) : Option T_Known := (I_KnownOk k a0).bind fun r2 => cond (!r2) (some (⟨[], []⟩ : T_Known)) ((I_copyKnown k a0).bind fun r3 => (I_isKey k a1).bind fun r20 => cond r20 ((V_Contains_int k a0.Keys a1).bind fun r21 => cond (!r21) (I_LearnKey.j2 k a1 (decide ((a0.Keys.length : Int) < 40)) r3) (I_LearnKey.j2 k a1 false r3)) (I_LearnKey.j2 k a1 false r3))
theorem ent15 : MG.Enters Tryz.prog 15 := en func15
theorem g48 (k : Nat) (g0 g1 : Bool) (a0 : T_Known) (a1 : Int) (r : T_Known) (H : I_LearnKey k a0 a1 = some r) : Gives Tryz.prog 15 [V.agg [Cell.sl g0 (List.map eS a0.Terms), Cell.sl g1 (List.map eI a0.Keys)], V.one (cI a1)] [] [V.agg [Cell.ow 1 (List.map eS r.Terms), Cell.ow 1 (List.map eI r.Keys)]] [] := by
 refine Gives.intro func15 rfl rfl rfl rfl ?_; refine fx fun w0 T S0 ob oh hm => ?_
 have hF := fxe w0 T S0 37 ob oh
 unfold I_LearnKey at H; obtain ⟨K, hK⟩ := leK k; refine sr ?_; refine bo 3 ?_; refine alc 4 info36 (L.nil ?_); refine WpC.seq (sr ?_); refine lp shape36 ?_; refine cB 5 ent46 (g46 k g0 g1 a0) H fun r2 H => ?_; refine gn 1 ?_; refine cd H (fun hc H => ?_) (fun hc H => ?_)
 ·refine sr ?_; refine bf built36 ?_; refine gn 1 ?_; refine WpC.le (Le.ownB 4 0 6 1 rfl rfl rfl) ?_; refine WpC.le (Le.ownB 4 1 7 1 rfl rfl rfl) ?_; cases H; exact WpC.ret rt
 ·refine WpC.skip (sr ?_); refine lp shape36 ?_; refine cB 6 ent49 (g49 k g0 g1 a0) H fun r3 H => ?_; refine alc 8 info36 ?_; refine gn 1 ?_; refine WpC.seq ?_; refine WpC.join (fun σ => ∃ (kj2 : Nat) (v15 : Int) (v16 : Bool) (v17 : T_Known), kj2 ≤ K ∧ I_LearnKey.j2 kj2 v15 v16 v17 = some r ∧ σ = mkSt [(1, oI v15), (4, oP 0 0), (5, oP 1 0), (26, oL v16)] [(2, ⟨1, List.map eS v17.Terms⟩), (3, ⟨1, List.map eI v17.Keys⟩)] [(0, [Cell.nil, Cell.nil]), (1, [Cell.own 2, Cell.own 3])] 4) ?_ ?_
  ·rintro _ ⟨kj2, v15, v16, v17, hkj2, H, rfl⟩
   unfold I_LearnKey.j2 at H; refine cd H (fun hc H => ?_) (fun hc H => ?_)
   ·refine sy 3 ?_; refine L.buildSlice (e := eI) 4 ([v15] : List Int) underlying24 info3 rfl rfl rfl hF rfl rfl rfl rfl rfl rfl rfl rfl ?_; obtain ⟨h18, H⟩ := condG H; refine L.append (xs := v17.Keys) (ys := ([v15] : List Int)) (e := eI) 5 underlying24 info3 rfl rfl hF rfl rfl rfl rfl rfl rfl rfl rfl (fun _ => rfl) (fun _ _ h1 h2 => by cases h1; cases h2; rfl) ⟨_, underlying24⟩ (of_decide_eq_true h18) rfl rfl ?_; refine gn 2 ?_; refine WpC.regionL ?_; refine go 2 ?_; obtain ⟨r19, hr19, H⟩ := bindS H; refine L.callB [true] [] [] 6 [0] hF rfl rfl rfl ent48 rfl rfl rfl rfl rfl (V_Sort_int_gives kj2  (v17.Keys ++ ([v15] : List Int)) r19 hr19) rfl rfl rfl (L.nil ?_); refine sg 2 ?_; cases H; exact WpC.ret rt
   ·refine WpC.skip (sr ?_); refine gn 2 ?_; cases H; exact WpC.ret rt
  ·refine WpC.regionL ?_; refine mv ?_; refine cB 9 ent50 (g50 k  a1) H fun r20 H => ?_; refine mv ?_; refine sH H (fun hc H => ?_) (fun hc H => ?_)
   ·refine go 3 ?_; refine cB 10 ent51 (g51 k g1 a0.Keys a1) H fun r21 H => ?_; refine go 3 ?_; refine sH H (fun hc H => ?_) (fun hc H => ?_)
    ·refine go 2 ?_; refine L.lenR (xs := a0.Keys) (e := eI) underlying24 hF rfl rfl rfl rfl ?_; refine gn 2 ?_; exact ⟨_, ⟨k, a1, (decide ((a0.Keys.length : Int) < 40)), r3, by omega, H, rfl⟩, lm [(0, 4), (1, 8), (2, 6), (3, 7)] hm⟩
    ·refine gn 5 ?_; exact ⟨_, ⟨k, a1, false, r3, by omega, H, rfl⟩, lm [(0, 4), (1, 8), (2, 6), (3, 7)] hm⟩
   ·refine gn 12 ?_; exact ⟨_, ⟨k, a1, false, r3, by omega, H, rfl⟩, lm [(0, 4), (1, 8), (2, 6), (3, 7)] hm⟩
/-! ### I_World_leak -/
def I_World_leak (k : Nat) (a1 : Int) (o0 : T_World) : Option (Int × T_World) := (I_isLong k a1).bind fun r4 => cond (!r4) (some (2, o0)) ((V_Contains_int k o0.Leaked a1).bind fun r6 => cond r6 (some (3, o0)) (cond ((o0.Leaked.length : Int) == 40) (some (3, o0)) (cond (decide ((2 * (o0.Leaked.length + ([a1] : List Int).length) + 192) * 8 ≤ 281474976710656)) ((I_LearnKey k o0.Known a1).bind fun r8 => some (0, (⟨o0.Config, o0.Now, o0.Fresh, o0.Net, r8, o0.Waits, o0.Creds, o0.Caches, o0.Log, o0.Accepts, (o0.Leaked ++ ([a1] : List Int))⟩ : T_World))) none)))
theorem ent140 : MG.Enters Tryz.prog 140 := en func140
theorem g140 (k : Nat) (a1 : Int) (o0 : T_World) (r : Int × T_World) (H : I_World_leak k a1 o0 = some r) : Gives Tryz.prog 140 [V.one (Cell.ptr 0 0), V.one (cI a1)] [[Cell.ow 1 (List.map eI o0.Config.UserRealm), Cell.ow 1 (List.map eI o0.Config.ServiceRealm), Cell.ow 2 (List.map eT_Pair o0.Config.Links), Cell.ow 2 (List.map eT_Pair o0.Config.Proxy), cI o0.Config.Skew, cI o0.Now, cI o0.Fresh, Cell.ow 1 (List.map eS o0.Net), Cell.ow 1 (List.map eS o0.Known.Terms), Cell.ow 1 (List.map eI o0.Known.Keys), Cell.ow 4 (List.map eT_Wait o0.Waits), Cell.ow 8 (List.map eT_Cred o0.Creds), Cell.ow 2 (List.map eT_Cache o0.Caches), Cell.ow 11 (List.map eT_Event o0.Log), Cell.ow 15 (List.map eT_Accept o0.Accepts), Cell.ow 1 (List.map eI o0.Leaked)]] [V.one (cI r.1)] [[Cell.ow 1 (List.map eI r.2.Config.UserRealm), Cell.ow 1 (List.map eI r.2.Config.ServiceRealm), Cell.ow 2 (List.map eT_Pair r.2.Config.Links), Cell.ow 2 (List.map eT_Pair r.2.Config.Proxy), cI r.2.Config.Skew, cI r.2.Now, cI r.2.Fresh, Cell.ow 1 (List.map eS r.2.Net), Cell.ow 1 (List.map eS r.2.Known.Terms), Cell.ow 1 (List.map eI r.2.Known.Keys), Cell.ow 4 (List.map eT_Wait r.2.Waits), Cell.ow 8 (List.map eT_Cred r.2.Creds), Cell.ow 2 (List.map eT_Cache r.2.Caches), Cell.ow 11 (List.map eT_Event r.2.Log), Cell.ow 15 (List.map eT_Accept r.2.Accepts), Cell.ow 1 (List.map eI r.2.Leaked)]] := by
 refine Gives.intro func140 rfl rfl rfl rfl ?_; refine fx fun w0 T S0 ob oh hm => ?_
 have hF := fxe w0 T S0 43 ob oh
 unfold I_World_leak at H; obtain ⟨K, hK⟩ := leK k; refine sg 1 ?_; refine WpC.seq (WpC.block (sr ?_)); refine mv ?_; refine cB 19 ent192 (g192 k  a1) H fun r4 H => ?_; refine gn 2 ?_; refine cd H (fun hc H => ?_) (fun hc H => ?_)
 ·refine sg 1 ?_; cases H; exact WpC.ret rt
 ·refine sy 1 ?_; refine L.nilCheck hF rfl rfl rfl rfl ?_; refine go 3 ?_; obtain ⟨r6, hr6, H⟩ := bindS H; refine ca [false, false] [18] [] 20 ent51 (g51 k false o0.Leaked a1 r6 hr6) ?_; refine mv ?_; refine sH H (fun hc H => ?_) (fun hc H => ?_)
  ·refine gn 8 ?_; refine cT ?_; refine sg 1 ?_; cases H; exact WpC.ret rt
  ·refine mv ?_; refine L.nilCheck hF rfl rfl rfl rfl ?_; refine go 2 ?_; refine L.lenR (xs := o0.Leaked) (e := eI) underlying24 hF rfl rfl rfl rfl ?_; refine gn 3 ?_; refine cd H (fun hc H => ?_) (fun hc H => ?_)
   ·refine sg 1 ?_; cases H; exact WpC.ret rt
   ·refine WpC.skip (sr ?_); refine go 2 ?_; refine L.nilCheck hF rfl rfl rfl rfl ?_; refine go 3 ?_; refine L.buildSlice (e := eI) 21 ([a1] : List Int) underlying24 info3 rfl rfl rfl hF rfl rfl rfl rfl rfl rfl rfl rfl ?_; obtain ⟨h7, H⟩ := condG H; refine L.append (xs := o0.Leaked) (ys := ([a1] : List Int)) (e := eI) 22 underlying24 info3 rfl rfl hF rfl rfl rfl rfl rfl rfl rfl rfl (fun _ => rfl) (fun _ _ h1 h2 => by cases h1; cases h2; rfl) ⟨_, underlying24⟩ (of_decide_eq_true h7) rfl rfl ?_; refine L.nilCheck hF rfl rfl rfl rfl ?_; refine gn 2 ?_; refine sy 2 ?_; refine L.nilCheck hF rfl rfl rfl rfl ?_; refine go 3 ?_; obtain ⟨r8, hr8, H⟩ := bindS H; refine ca [false, false] [11, 12] [] 23 ent15 (g48 k false false o0.Known a1 r8 hr8) ?_; refine L.nilCheck hF rfl rfl rfl rfl ?_; refine gn 2 ?_; refine sg 1 ?_; cases H; exact WpC.ret rt
end Go.Proofs.YtnbjjmnohlnplaaGreat.M
