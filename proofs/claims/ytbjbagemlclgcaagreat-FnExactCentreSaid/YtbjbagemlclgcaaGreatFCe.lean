import Derived.Test.YtbjbagemlclgcaaGreatFCex1
import Derived.Test.YtbjbagemlclgcaaGreatProg
namespace Go.Proofs.YtbjbagemlclgcaaGreat.M
open Go Go.MG Tryz
set_option linter.unusedVariables false
set_option linter.unusedSimpArgs false
set_option maxHeartbeats 8000000
set_option maxRecDepth 100000
/-! ### I_authOk -/
def I_authOk (k : Nat) (a0 : T_Auth) : Option Bool := (I_isPrincipal k a0.Client).bind fun r4 => cond r4 ((I_isTime k a0.Time).bind fun r5 => cond r5 ((I_within k a0.Seq 0 1000000).bind fun r6 => some r6) (some false)) (some false)
theorem ent112 : MG.Enters Tryz.prog 112 := ⟨Tryz.f112, func112, rfl, by decide⟩
theorem g112 (k : Nat) (a0 : T_Auth) (r : Bool) (H : I_authOk k a0 = some r) : Gives Tryz.prog 112 [V.agg (bT_Auth a0)] [] [V.one (cL r)] [] := by
 refine Gives.intro func112 rfl rfl rfl rfl ?_; refine fx fun w0 T S0 ob oh hm => ?_
 have hF := fxe w0 T S0 16 ob oh
 unfold I_authOk at H; obtain ⟨K, hK⟩ := leK k; refine sr ?_; refine bo 3 ?_; refine ag (L.nil ?_); refine sr ?_; refine fa underlying35 info3 ?_; refine lp shape3 ?_; obtain ⟨r4, hr4, H⟩ := bindS H; refine c0 4 ent170 (g170 k  a0.Client r4 hr4) ?_; refine mv ?_; refine sH H (fun hc H => ?_) (fun hc H => ?_)
 ·refine fa underlying35 info3 ?_; refine lp shape3 ?_; obtain ⟨r5, hr5, H⟩ := bindS H; refine c0 5 ent53 (g53 k  a0.Time r5 hr5) ?_; refine pk ?_; refine mv ?_; refine sH H (fun hc H => ?_) (fun hc H => ?_)
  ·refine fa underlying35 info3 ?_; refine lp shape3 ?_; obtain ⟨r6, hr6, H⟩ := bindS H; refine c0 6 ent90 (g90 k  a0.Seq 0 1000000 r6 hr6) ?_; refine pk ?_; refine ag (L.nil ?_); cases H; exact WpC.ret rt
  ·(repeat refine of ?_); refine pk ?_; refine ag (L.nil ?_); cases H; exact WpC.ret rt
 ·(repeat refine of ?_); refine pk ?_; refine mv ?_; (repeat refine of ?_); refine pk ?_; refine ag (L.nil ?_); cases H; exact WpC.ret rt
/-! ### I_ShowAuth -/
def I_ShowAuth (k : Nat) (a0 : T_Auth) (a1 : Int) : Option (List UInt8) := (I_authOk k a0).bind fun r2 => cond (!r2) (some ([] : List UInt8)) ((I_Nums k ([7, a0.Client, a0.Time, a0.Seq] : List Int)).bind fun r3 => (I_Seal k a1 r3).bind fun r4 => some r4)
theorem ent175 : MG.Enters Tryz.prog 175 := ⟨Tryz.f175, func175, rfl, by decide⟩
theorem g175 (k : Nat) (a0 : T_Auth) (a1 : Int) (r : List UInt8) (H : I_ShowAuth k a0 a1 = some r) : Gives Tryz.prog 175 [V.agg (bT_Auth a0), V.one (cI a1)] [] [V.one (cS r)] [] := by
 refine Gives.intro func175 rfl rfl rfl rfl ?_; refine fx fun w0 T S0 ob oh hm => ?_
 have hF := fxe w0 T S0 18 ob oh
 unfold I_ShowAuth at H; obtain ⟨K, hK⟩ := leK k; refine sr ?_; refine bo 4 ?_; refine ag (L.nil ?_); refine WpC.seq (sr ?_); refine lp shape35 ?_; obtain ⟨r2, hr2, H⟩ := bindS H; refine c0 5 ent112 (g112 k  a0 r2 hr2) ?_; refine nt (L.nil ?_); refine cd H (fun hc H => ?_) (fun hc H => ?_)
 ·refine sr ?_; refine ag (L.nil ?_); cases H; exact WpC.ret rt
 ·refine WpC.skip (sr ?_); refine mv ?_; refine fa underlying35 info3 ?_; refine lp shape3 ?_; refine fa underlying35 info3 ?_; refine lp shape3 ?_; refine fa underlying35 info3 ?_; refine lp shape3 ?_; refine L.buildSlice (e := eI) 6 ([7, a0.Client, a0.Time, a0.Seq] : List Int) underlying22 info3 rfl rfl rfl hF rfl rfl rfl rfl rfl rfl rfl rfl ?_; obtain ⟨r3, hr3, H⟩ := bindS H; refine ca [false] [6] [] 7 ent186 (g186 k false ([7, a0.Client, a0.Time, a0.Seq] : List Int) r3 hr3) ?_; obtain ⟨r4, hr4, H⟩ := bindS H; refine c0 8 ent193 (g193 k  a1 r3 r4 hr4) ?_; refine ag (L.nil ?_); cases H; exact WpC.ret rt
/-! ### I_ReadAuth -/
def I_ReadAuth (k : Nat) (a0 : List UInt8) (a1 : Int) : Option (T_Auth × Bool) := (I_Open k a0 a1).bind fun r1 => (I_ReadNums k r1.1).bind fun r2 => cond ((r2.1.length : Int) != 4) (some ((⟨0, 0, 0⟩ : T_Auth), false)) ((at? r2.1 1).bind fun b3 => (at? r2.1 2).bind fun b4 => (at? r2.1 3).bind fun b5 => (I_ShowAuth k (⟨b3, b4, b5⟩ : T_Auth) a1).bind fun r7 => cond (r7 != a0) (some ((⟨0, 0, 0⟩ : T_Auth), false)) (some ((⟨b3, b4, b5⟩ : T_Auth), true)))
theorem ent120 : MG.Enters Tryz.prog 120 := ⟨Tryz.f120, func120, rfl, by decide⟩
theorem g120 (k : Nat) (a0 : List UInt8) (a1 : Int) (r : T_Auth × Bool) (H : I_ReadAuth k a0 a1 = some r) : Gives Tryz.prog 120 [V.one (cS a0), V.one (cI a1)] [] [V.agg (bT_Auth r.1), V.one (cL r.2)] [] := by
 refine Gives.intro func120 rfl rfl rfl rfl ?_; refine fx fun w0 T S0 ob oh hm => ?_
 have hF := fxe w0 T S0 43 ob oh
 unfold I_ReadAuth at H; obtain ⟨K, hK⟩ := leK k; refine sr ?_; refine alc 2 info35 ?_; refine ag (L.nil ?_); refine sr ?_; refine mv ?_; refine mv ?_; obtain ⟨r1, hr1, H⟩ := bindS H; refine c0 3 ent152 (g152 k  a0 a1 r1 hr1) ?_; refine mv ?_; refine ex ?_; refine ex ?_; refine ag ?_; refine ag (L.nil ?_); refine sr ?_; refine mv ?_; obtain ⟨r2, hr2, H⟩ := bindS H; refine c0 5 ent91 (g91 k  r1.1 r2 hr2) ?_; refine mv ?_; refine ex ?_; refine ex ?_; refine ag ?_; refine ag (L.nil ?_); refine WpC.seq (sr ?_); refine mv ?_; refine L.lenR (xs := r2.1) (e := eI) underlying22 hF rfl rfl rfl rfl ?_; refine bi (L.nil ?_); refine cd H (fun hc H => ?_) (fun hc H => ?_)
 ·refine sr ?_; refine bf built35 ?_; refine sp shape35 ?_; refine ag (L.nil ?_); cases H; exact WpC.ret rt
 ·refine WpC.skip (WpC.seq ?_); obtain ⟨b3, hb3, H⟩ := bindS H; obtain ⟨b4, hb4, H⟩ := bindS H; obtain ⟨b5, hb5, H⟩ := bindS H; refine A.lin (fun β => mkStL [(0, ai (one (cS a0))), (1, iI a1), (4, iP 2 0), (8, ai (one (Cell.own 5))), (10, lP (β 10) 7 0), (26, al (β 0) (one (Cell.own 5))), (27, al (β 1) (one (Cell.ep 5 ((1 : Int).toNat) 0))), (28, lI (β 2) b3), (29, al (β 3) (one (Cell.own 5))), (30, al (β 4) (one (Cell.ep 5 ((2 : Int).toNat) 0))), (31, lI (β 5) b4), (32, al (β 6) (one (Cell.own 5))), (33, al (β 7) (one (Cell.ep 5 ((3 : Int).toNat) 0))), (34, lI (β 8) b5), (35, al (β 9) (agg [cI b3, cI b4, cI b5]))] [(5, ai (⟨1, List.map eI r2.1⟩))] [(2, ai ([cI 0, cI 0, cI 0])), (7, [(β 11, some ([cI b3, cI b4, cI b5])), (β 10, some ([cI 0, cI 0, cI 0]))])] 8) [([], [1, 2, 9, 11]), ([0], [2, 9, 11]), ([0, 1], [9, 11]), ([], [4, 5, 9, 11]), ([3], [5, 9, 11]), ([3, 4], [9, 11]), ([], [7, 8, 9, 11]), ([6], [8, 9, 11]), ([6, 7], [9, 11]), ([0, 1, 2, 3, 4, 5, 6, 7, 8], [11]), ([], [11]), ([0, 1, 2, 3, 4, 5, 6, 7, 8, 9, 10], [])] 12 mixed rfl (by kernel_rfl) ?_ ?_ ?_
  ·exact Le.lin [] hm rfl (sa4 (kn (kn2 (kn8 kz)))) (ra kz) (ba (kn kz))
  ·repeat' (first | exact trivial | refine ⟨⟨_, rfl, fun β => ?_⟩, ?_⟩ | fail)
   ·refine mv ?_; exact lx [] hm
   ·refine ix underlying22 info3 hb3 ?_; exact lx [] hm
   ·refine L.loadEp (xs := r2.1) (e := eI) shape3 hF rfl rfl rfl rfl (at?_get hb3).2 rfl rfl ?_; exact lx [] hm
   ·refine mv ?_; exact lx [] hm
   ·refine ix underlying22 info3 hb4 ?_; exact lx [] hm
   ·refine L.loadEp (xs := r2.1) (e := eI) shape3 hF rfl rfl rfl rfl (at?_get hb4).2 rfl rfl ?_; exact lx [] hm
   ·refine mv ?_; exact lx [] hm
   ·refine ix underlying22 info3 hb5 ?_; exact lx [] hm
   ·refine L.loadEp (xs := r2.1) (e := eI) shape3 hF rfl rfl rfl rfl (at?_get hb5).2 rfl rfl ?_; exact lx [] hm
   ·refine bf built35 ?_; exact lx [] hm
   ·refine alc 8 info35 ?_; exact lx [(7, 8)] hm
   ·refine sp shape35 ?_; exact lx [] hm
  refine ⟨_, (lm [(0, 2), (1, 7)] hm : Le _ _ (mkSt [(0, oS a0), (1, oI a1), (4, oP 0 0), (10, oP 1 0)] [] [(0, [cI 0, cI 0, cI 0]), (1, [cI b3, cI b4, cI b5])] 2)), ?_⟩; refine WpC.seq (sr ?_); refine lp shape35 ?_; refine mv ?_; obtain ⟨r7, hr7, H⟩ := bindS H; refine c0 2 ent175 (g175 k  (⟨b3, b4, b5⟩ : T_Auth) a1 r7 hr7) ?_; refine mv ?_; refine L.binS hF rfl rfl rfl rfl rfl (L.nil ?_); refine cd H (fun hc H => ?_) (fun hc H => ?_)
  ·refine sr ?_; refine bf built35 ?_; refine sp shape35 ?_; refine ag (L.nil ?_); cases H; exact WpC.ret rt
  ·refine WpC.skip (sr ?_); refine lp shape35 ?_; refine sp shape35 ?_; refine ag (L.nil ?_); cases H; exact WpC.ret rt
/-! ### I_Meet -/
def I_Meet (k : Nat) (a0 a1 : T_Rest) : Option T_Rest := (I_RestOk k a0).bind fun r7 => cond (!r7) (some (⟨0, 0, 0⟩ : T_Rest)) ((I_RestOk k a1).bind fun r8 => cond (!r8) (some (⟨0, 0, 0⟩ : T_Rest)) (some (⟨(Go.bits .and .i64 a0.Servers a1.Servers), (Go.bits .and .i64 a0.Ops a1.Ops), (if a1.End < a0.End then a1.End else a0.End)⟩ : T_Rest)))
theorem ent160 : MG.Enters Tryz.prog 160 := ⟨Tryz.f160, func160, rfl, by decide⟩
theorem g160 (k : Nat) (a0 a1 r : T_Rest) (H : I_Meet k a0 a1 = some r) : Gives Tryz.prog 160 [V.agg (bT_Rest a0), V.agg (bT_Rest a1)] [] [V.agg (bT_Rest r)] [] := by
 refine Gives.intro func160 rfl rfl rfl rfl ?_; refine fx fun w0 T S0 ob oh hm => ?_
 have hF := fxe w0 T S0 30 ob oh
 unfold I_Meet at H; obtain ⟨K, hK⟩ := leK k; refine sr ?_; refine bo 6 ?_; refine bo 7 ?_; refine alc 8 info37 (L.nil ?_); refine WpC.seq (sr ?_); refine lp shape37 ?_; obtain ⟨r7, hr7, H⟩ := bindS H; refine c0 9 ent121 (g121 k  a0 r7 hr7) ?_; refine nt ?_; refine mv ?_; refine sH H (fun hc H => ?_) (fun hc H => ?_)
 ·(repeat refine of ?_); refine pk (L.nil ?_); refine cT ?_; refine sr ?_; refine bf built37 ?_; refine sp shape37 (L.nil ?_); cases H; exact WpC.ret rt
 ·refine lp shape37 ?_; obtain ⟨r8, hr8, H⟩ := bindS H; refine c0 10 ent121 (g121 k  a1 r8 hr8) ?_; refine nt ?_; refine pk (L.nil ?_); refine cd H (fun hc H => ?_) (fun hc H => ?_)
  ·refine sr ?_; refine bf built37 ?_; refine sp shape37 (L.nil ?_); cases H; exact WpC.ret rt
  ·refine WpC.skip (sr ?_); refine fa underlying37 info3 ?_; refine lp shape3 ?_; refine fa underlying37 info3 ?_; refine lp shape3 ?_; refine bi ?_; refine fa underlying37 info3 ?_; refine lp shape3 ?_; refine fa underlying37 info3 ?_; refine lp shape3 ?_; refine bi ?_; refine fa underlying37 info3 ?_; refine lp shape3 ?_; refine fa underlying37 info3 ?_; refine lp shape3 ?_; refine L.minI hF rfl rfl rfl rfl ?_; refine bf built37 ?_; refine sp shape37 (L.nil ?_); cases H; exact WpC.ret rt
/-! ### I_copyInts -/
def I_copyInts (k : Nat) (a0 : List Int) : Option (List Int) := cond (decide ((2 * (([] : List Int).length + a0.length) + 192) * 8 ≤ 281474976710656)) (some (([] : List Int) ++ a0)) none
theorem ent58 : MG.Enters Tryz.prog 58 := ⟨Tryz.f58, func58, rfl, by decide⟩
theorem g58 (k : Nat) (g0 : Bool) (a0 r : List Int) (H : I_copyInts k a0 = some r) : Gives Tryz.prog 58 [V.one (Cell.sl g0 (List.map eI a0))] [] [V.one (Cell.ow 1 (List.map eI r))] [] := by
 refine Gives.intro func58 rfl rfl rfl rfl ?_; refine fx fun w0 T S0 ob oh hm => ?_
 have hF := fxe w0 T S0 5 ob oh
 unfold I_copyInts at H; obtain ⟨K, hK⟩ := leK k; refine sr ?_; refine ag (L.nil ?_); refine sr ?_; refine mv ?_; obtain ⟨h1, H⟩ := condG H; refine L.append (xs := ([] : List Int)) (ys := a0) (e := eI) 1 underlying22 info3 rfl rfl hF rfl rfl rfl rfl rfl rfl rfl rfl (fun _ => rfl) (fun _ _ h1 _ => by cases h1) ⟨_, underlying22⟩ (of_decide_eq_true h1) rfl rfl ?_; refine ag (L.nil ?_); cases H; exact WpC.ret rt
/-! ### I_asked_delegate -/
def I_asked_delegate.j2 (k : Nat) (v34 v35 : Int) (v36 : Bool) (v37 : T_asked) (v38 : T_Ticket) (v39 : T_Rest) (v40 v41 v42 v43 v44 v45 : Int) (v46 v47 : List Int) : Option T_Reply := cond v36 (some (⟨1, ([] : List UInt8), (⟨0, 0, 0, 0, 0, 0, 0, 0, (⟨0, 0, 0⟩ : T_Rest)⟩ : T_Event)⟩ : T_Reply)) (cond (decide (v37.now > v45)) (some (⟨4, ([] : List UInt8), (⟨0, 0, 0, 0, 0, 0, 0, 0, (⟨0, 0, 0⟩ : T_Rest)⟩ : T_Event)⟩ : T_Reply)) ((V_Contains_Pair k v37.c.Proxy (⟨v35, v34⟩ : T_Pair)).bind fun r49 => cond (!r49) (some (⟨6, ([] : List UInt8), (⟨0, 0, 0, 0, 0, 0, 0, 0, (⟨0, 0, 0⟩ : T_Rest)⟩ : T_Event)⟩ : T_Reply)) (cond (decide ((v47.length : Int) ≥ 4)) (some (⟨6, ([] : List UInt8), (⟨0, 0, 0, 0, 0, 0, 0, 0, (⟨0, 0, 0⟩ : T_Rest)⟩ : T_Event)⟩ : T_Reply)) ((I_Meet k (⟨v43, v44, v45⟩ : T_Rest) v39).bind fun r50 => (I_copyInts k v47).bind fun r51 => cond (decide ((2 * (r51.length + ([v35] : List Int).length) + 192) * 8 ≤ 281474976710656)) ((I_PrincipalKey k (IntKind.i64.wrap (3 + v34))).bind fun r53 => (I_asked_given k v37 (⟨4, 0, v38.Client, v40, 0, 0, v38.Key, v42, (⟨0, 0, 0⟩ : T_Rest)⟩ : T_Event) (⟨v40, v34, v37.fresh, r50, v46, (r51 ++ ([v35] : List Int))⟩ : T_Ticket) r53 v38.Key).bind fun r54 => some r54) none))))
def I_asked_delegate (k : Nat) (a0 : T_asked) (a1 : T_Ticket) (a2 : Int) (a3 : T_Rest) : Option T_Reply := (I_isService k (IntKind.i64.wrap (a1.Client - 3))).bind fun r10 => cond (!r10) (some (⟨6, ([] : List UInt8), (⟨0, 0, 0, 0, 0, 0, 0, 0, (⟨0, 0, 0⟩ : T_Rest)⟩ : T_Event)⟩ : T_Reply)) ((at? a0.c.ServiceRealm (IntKind.i64.wrap (a1.Client - 3))).bind fun b12 => cond (b12 != a0.realm) (some (⟨6, ([] : List UInt8), (⟨0, 0, 0, 0, 0, 0, 0, 0, (⟨0, 0, 0⟩ : T_Rest)⟩ : T_Event)⟩ : T_Reply)) ((at? a0.c.ServiceRealm a2).bind fun b14 => cond (b14 != a0.realm) (some (⟨6, ([] : List UInt8), (⟨0, 0, 0, 0, 0, 0, 0, 0, (⟨0, 0, 0⟩ : T_Rest)⟩ : T_Event)⟩ : T_Reply)) ((at? a0.parts 4).bind fun b15 => (I_PrincipalKey k a1.Client).bind fun r16 => (I_ReadTicket k b15 r16).bind fun r17 => cond (!r17.2) (I_asked_delegate.j2 k a2 (IntKind.i64.wrap (a1.Client - 3)) true a0 a1 a3 r17.1.Client r17.1.Service r17.1.Key r17.1.Rest.Servers r17.1.Rest.Ops r17.1.Rest.End r17.1.Path r17.1.Via) (I_asked_delegate.j2 k a2 (IntKind.i64.wrap (a1.Client - 3)) (r17.1.Service != (IntKind.i64.wrap (a1.Client - 3))) a0 a1 a3 r17.1.Client r17.1.Service r17.1.Key r17.1.Rest.Servers r17.1.Rest.Ops r17.1.Rest.End r17.1.Path r17.1.Via))))
theorem ent159 : MG.Enters Tryz.prog 159 := ⟨Tryz.f159, func159, rfl, by decide⟩
theorem g159 (k : Nat) (g0 g1 g2 g3 g4 g5 g6 : Bool) (a0 : T_asked) (a1 : T_Ticket) (a2 : Int) (a3 : T_Rest) (r : T_Reply) (H : I_asked_delegate k a0 a1 a2 a3 = some r) : Gives Tryz.prog 159 [V.agg (bT_asked g0 g1 g2 g3 g4 a0), V.agg (bT_Ticket g5 g6 a1), V.one (cI a2), V.agg (bT_Rest a3)] [] [V.agg (bT_Reply r)] [] := by
 refine Gives.intro func159 rfl rfl rfl rfl ?_; refine fx fun w0 T S0 ob oh hm => ?_
 have hF := fxe w0 T S0 124 ob oh
 unfold I_asked_delegate at H; obtain ⟨K, hK⟩ := leK k; refine sr ?_; refine bo 22 ?_; refine bo 23 ?_; refine bo 24 ?_; refine alc 25 info64 (L.nil ?_); refine sr ?_; refine fa underlying76 info3 ?_; refine lp shape3 ?_; refine bi ?_; refine ag (L.nil ?_); refine WpC.seq (WpC.seq ?_); obtain ⟨r10, hr10, H⟩ := bindS H
 rcases Bool.eq_false_or_eq_true ((!r10)) with hc11 | hc11
 ·replace H := condT hc11 H
  refine A.begin mixed rfl rfl ?_; intro W hI hO; refine hI _ _ _ ?_; refine tM 0 ?_; refine A.all [1] (by kernel_rfl) rfl ⟨⟨_, rfl, ?_⟩, trivial⟩; refine c0 26 ent52 (g52 k  (IntKind.i64.wrap (a1.Client - 3)) r10 hr10) (L.nil ?_); refine Atk 2 rfl (Ca.un rfl rfl) (fun Q0 k0 => nt (L.nil k0)) ?_; refine tM 3 ?_; refine A.le (τ := mkSt [(2, oI a2), (4, oP 0 0), (5, oP 1 0), (7, oP 2 0), (8, oP 3 0), (9, one (cI (IntKind.i64.wrap (a1.Client - 3)))), (20, oL true)] [] [(0, (bT_asked g0 g1 g2 g3 g4 a0)), (1, (bT_Ticket g5 g6 a1)), (2, (bT_Rest a3)), (3, zc0)] 4) (Le.mk [(0, 22), (1, 23), (2, 24), (3, 25)] hm rfl (Sa4 (Sa2 (Sa1 trivial rfl (congrArg (fun b => some (one (cL b))) hc11)))) trivial (Ba4 trivial)) ?_; refine tO 4 ?_; refine tO 5 ?_; refine tO 6 ?_; refine tO 7 ?_; refine tO 8 ?_; refine tO 9 ?_; refine tO 10 ?_; refine tO 11 ?_; refine tO 12 ?_; refine tP 13 ?_
  refine A.le (τ := mkSt [(2, oI a2), (4, oP 0 0), (5, oP 1 0), (7, oP 2 0), (8, oP 3 0), (9, one (cI (IntKind.i64.wrap (a1.Client - 3)))), (30, oL true)] [] [(0, (bT_asked g0 g1 g2 g3 g4 a0)), (1, (bT_Ticket g5 g6 a1)), (2, (bT_Rest a3)), (3, zc0)] 4) (lm [(0, 0), (1, 1), (2, 2), (3, 3)] hm) ?_; refine tM 14 ?_; refine tO 15 ?_; refine tO 16 ?_; refine tO 17 ?_; refine tO 18 ?_; refine tO 19 ?_; refine tO 20 ?_; refine tO 21 ?_; refine tO 22 ?_; refine tO 23 ?_
  refine A.le (τ := mkSt [(2, oI a2), (4, oP 0 0), (5, oP 1 0), (7, oP 2 0), (8, oP 3 0), (9, one (cI (IntKind.i64.wrap (a1.Client - 3)))), (31, oL true), (40, Slot.tup [])] [] [(0, (bT_asked g0 g1 g2 g3 g4 a0)), (1, (bT_Ticket g5 g6 a1)), (2, (bT_Rest a3)), (3, zc0)] 4) (lm [(0, 0), (1, 1), (2, 2), (3, 3)] hm) ?_; refine tP 24 ?_; refine A.le (τ := mkSt [(2, oI a2), (4, oP 0 0), (5, oP 1 0), (7, oP 2 0), (8, oP 3 0), (9, one (cI (IntKind.i64.wrap (a1.Client - 3)))), (41, oL true)] [] [(0, (bT_asked g0 g1 g2 g3 g4 a0)), (1, (bT_Ticket g5 g6 a1)), (2, (bT_Rest a3)), (3, zc0)] 4) (lm [(0, 0), (1, 1), (2, 2), (3, 3)] hm) ?_; refine A.done (by kernel_rfl) ?_; refine cT ?_; refine sr ?_; refine bf built64 ?_; refine sp shape64 (L.nil ?_); cases H; exact WpC.ret rt
 ·replace H := condF hc11 H
  obtain ⟨b12, hb12, H⟩ := bindS H
  rcases Bool.eq_false_or_eq_true ((b12 != a0.realm)) with hc13 | hc13
  ·replace H := condT hc13 H
   refine A.begin mixed rfl rfl ?_; intro W hI hO
   have n4095 : W 13 #[true, true, true, true, true, true, true, true, true, true, true, true, false, false, false, false, false, false, false, false, false, false, false, false, false] (mkSt [(2, oI a2), (4, oP 0 0), (5, oP 1 0), (7, oP 2 0), (8, oP 3 0), (9, one (cI (IntKind.i64.wrap (a1.Client - 3)))), (20, oL false), (26, oI b12), (28, oI a0.realm)] [] [(0, (bT_asked g0 g1 g2 g3 g4 a0)), (1, (bT_Ticket g5 g6 a1)), (2, (bT_Rest a3)), (3, zc0)] 4) := by
    refine hI _ _ _ ?_; refine Atk 12 rfl (Ca.bin rfl rfl (calm_int _ _ _ _ _ _ _ _)) (fun Q0 k0 => bi (L.nil k0)) ?_; refine tP 13 ?_; refine tM 14 ?_; refine A.le (τ := mkSt [(2, oI a2), (4, oP 0 0), (5, oP 1 0), (7, oP 2 0), (8, oP 3 0), (9, one (cI (IntKind.i64.wrap (a1.Client - 3)))), (31, oL true)] [] [(0, (bT_asked g0 g1 g2 g3 g4 a0)), (1, (bT_Ticket g5 g6 a1)), (2, (bT_Rest a3)), (3, zc0)] 4) (Le.mk [(0, 0), (1, 1), (2, 2), (3, 3)] hm rfl (Sa4 (Sa2 (Sa1 trivial rfl (congrArg (fun b => some (one (cL b))) hc13)))) trivial (Ba4 trivial)) ?_; refine tO 15 ?_; refine tO 16 ?_; refine tO 17 ?_; refine tO 18 ?_; refine tO 19 ?_; refine tO 20 ?_; refine tO 21 ?_; refine tO 22 ?_; refine tO 23 ?_; refine tP 24 ?_
    refine A.le (τ := mkSt [(2, oI a2), (4, oP 0 0), (5, oP 1 0), (7, oP 2 0), (8, oP 3 0), (9, one (cI (IntKind.i64.wrap (a1.Client - 3)))), (41, oL true)] [] [(0, (bT_asked g0 g1 g2 g3 g4 a0)), (1, (bT_Ticket g5 g6 a1)), (2, (bT_Rest a3)), (3, zc0)] 4) (lm [(0, 0), (1, 1), (2, 2), (3, 3)] hm) ?_; refine A.done (by kernel_rfl) ?_; refine cT ?_; refine sr ?_; refine bf built64 ?_; refine sp shape64 (L.nil ?_); cases H; exact WpC.ret rt
   have n3583 : W 14 #[true, true, true, true, true, true, true, true, true, false, true, true, false, false, false, false, false, false, false, false, false, false, false, false, false] (mkSt [(2, oI a2), (4, oP 0 0), (5, oP 1 0), (7, oP 2 0), (8, oP 3 0), (9, one (cI (IntKind.i64.wrap (a1.Client - 3)))), (20, oL false), (25, one (Cell.pe g1 (eI b12) 0)), (28, oI a0.realm)] [] [(0, (bT_asked g0 g1 g2 g3 g4 a0)), (1, (bT_Ticket g5 g6 a1)), (2, (bT_Rest a3)), (3, zc0)] 4) := by
    refine hI _ _ _ ?_; refine A.all [9] (by kernel_rfl) rfl ⟨⟨_, rfl, ?_⟩, trivial⟩; refine le shape3 (L.nil ?_); exact A.on (hO _ _ _ n4095) (lm [(0, 0), (1, 1), (2, 2), (3, 3)] hm)
   refine hI _ _ _ ?_; refine tM 0 ?_; refine A.all [1] (by kernel_rfl) rfl ⟨⟨_, rfl, ?_⟩, trivial⟩; refine c0 26 ent52 (g52 k  (IntKind.i64.wrap (a1.Client - 3)) r10 hr10) (L.nil ?_); refine Atk 2 rfl (Ca.un rfl rfl) (fun Q0 k0 => nt (L.nil k0)) ?_; refine tM 3 ?_; refine A.le (τ := mkSt [(2, oI a2), (4, oP 0 0), (5, oP 1 0), (7, oP 2 0), (8, oP 3 0), (9, one (cI (IntKind.i64.wrap (a1.Client - 3)))), (20, oL false)] [] [(0, (bT_asked g0 g1 g2 g3 g4 a0)), (1, (bT_Ticket g5 g6 a1)), (2, (bT_Rest a3)), (3, zc0)] 4) (Le.mk [(0, 22), (1, 23), (2, 24), (3, 25)] hm rfl (Sa4 (Sa2 (Sa1 trivial rfl (congrArg (fun b => some (one (cL b))) hc11)))) trivial (Ba4 trivial)) ?_; refine tF 4 underlying130 info44 ?_; refine tF 5 underlying44 info22 ?_; refine tM 7 ?_; refine tF 10 underlying130 info3 ?_
   refine A.all [6, 11] (by kernel_rfl) rfl ⟨⟨_, rfl, ?_⟩, ⟨_, rfl, ?_⟩, trivial⟩
   ·refine lp shape22 (L.nil ?_); refine Atk 8 rfl (Ca.indexAddr) (fun Q0 k0 => ix underlying22 info3 hb12 (L.nil k0)) ?_; refine A.all [9, 11] (by kernel_rfl) rfl ⟨⟨_, rfl, ?_⟩, ⟨_, rfl, ?_⟩, trivial⟩
    ·refine le shape3 (L.nil ?_); refine A.all [11] (by kernel_rfl) rfl ⟨⟨_, rfl, ?_⟩, trivial⟩; refine lp shape3 (L.nil ?_); exact A.on (hO _ _ _ n4095) (lm [(0, 0), (1, 1), (2, 2), (3, 3)] hm)
    ·refine lp shape3 (L.nil ?_); exact A.on (hO _ _ _ n3583) (lm [(0, 0), (1, 1), (2, 2), (3, 3)] hm)
   ·refine lp shape3 (L.nil ?_); refine A.all [6] (by kernel_rfl) rfl ⟨⟨_, rfl, ?_⟩, trivial⟩; refine lp shape22 (L.nil ?_); refine Atk 8 rfl (Ca.indexAddr) (fun Q0 k0 => ix underlying22 info3 hb12 (L.nil k0)) ?_; exact A.on (hO _ _ _ n3583) (lm [(0, 0), (1, 1), (2, 2), (3, 3)] hm)
  ·replace H := condF hc13 H
   obtain ⟨b14, hb14, H⟩ := bindS H
   refine A.lin (fun β => mkStL [(2, iI a2), (4, iP 22 0), (5, iP 23 0), (7, iP 24 0), (8, iP 25 0), (9, ai (one (cI (IntKind.i64.wrap (a1.Client - 3))))), (17, al (β 0) (one (cI (IntKind.i64.wrap (a1.Client - 3))))), (18, al (β 1) (one (cL r10))), (19, al (β 2) (one (cL (!r10)))), (20, al (β 3) (one (cL false))), (21, lP (β 4) 22 0), (22, lP (β 5) 22 1), (23, al (β 6) (one (Cell.sl g1 (List.map eI a0.c.ServiceRealm)))), (24, al (β 7) (one (cI (IntKind.i64.wrap (a1.Client - 3))))), (25, al (β 8) (one (Cell.pe g1 (eI b12) 0))), (26, lI (β 9) b12), (27, lP (β 10) 22 5), (28, al (β 11) (one (cI a0.realm))), (29, al (β 12) (one (cL (b12 != a0.realm)))), (30, al (β 13) (one (cL (b12 != a0.realm)))), (31, al (β 14) (one (cL false))), (32, lP (β 15) 22 0), (33, lP (β 16) 22 1), (34, al (β 17) (one (Cell.sl g1 (List.map eI a0.c.ServiceRealm)))), (35, lI (β 18) a2), (36, al (β 19) (one (Cell.pe g1 (eI b14) 0))), (37, lI (β 20) b14), (38, lP (β 21) 22 5), (39, al (β 22) (one (cI a0.realm))), (40, al (β 23) (one (cL (b14 != a0.realm)))), (41, al (β 24) (one (cL (b14 != a0.realm))))] [] [(22, ai ((bT_asked g0 g1 g2 g3 g4 a0))), (23, ai ((bT_Ticket g5 g6 a1))), (24, ai ((bT_Rest a3))), (25, ai (zc0))] 27) [([], [1, 2, 3, 4, 5, 6, 7, 8, 9, 10, 11, 12, 13, 14, 15, 16, 17, 18, 19, 20, 21, 22, 23, 24]), ([0], [2, 3, 4, 5, 6, 7, 8, 9, 10, 11, 12, 13, 14, 15, 16, 17, 18, 19, 20, 21, 22, 23, 24]), ([0, 1], [3, 4, 5, 6, 7, 8, 9, 10, 11, 12, 13, 14, 15, 16, 17, 18, 19, 20, 21, 22, 23, 24]), ([0, 1, 2], [4, 5, 6, 7, 8, 9, 10, 11, 12, 13, 14, 15, 16, 17, 18, 19, 20, 21, 22, 23, 24]), ([0, 1, 2, 3], [5, 6, 8, 9, 12, 13, 14, 15, 16, 17, 18, 19, 20, 21, 22, 23, 24]), ([0, 1, 2, 3, 4], [6, 8, 9, 12, 13, 14, 15, 16, 17, 18, 19, 20, 21, 22, 23, 24]), ([0, 1, 2, 3, 4, 5], [8, 9, 12, 13, 14, 15, 16, 17, 18, 19, 20, 21, 22, 23, 24]), ([0, 1, 2, 3], [8, 9, 12, 13, 14, 15, 16, 17, 18, 19, 20, 21, 22, 23, 24]), ([0, 1, 2, 3, 4, 5, 6, 7], [9, 12, 13, 14, 15, 16, 17, 18, 19, 20, 21, 22, 23, 24]), ([0, 1, 2, 3, 4, 5, 6, 7, 8], [12, 13, 14, 15, 16, 17, 18, 19, 20, 21, 22, 23, 24]), ([0, 1, 2, 3], [11, 12, 13, 14, 15, 16, 17, 18, 19, 20, 21, 22, 23, 24]), ([0, 1, 2, 3, 10], [12, 13, 14, 15, 16, 17, 18, 19, 20, 21, 22, 23, 24]), ([0, 1, 2, 3, 4, 5, 6, 7, 8, 9, 10, 11], [13, 14, 15, 16, 17, 18, 19, 20, 21, 22, 23, 24]), ([0, 1, 2, 3, 4, 5, 6, 7, 8, 9, 10, 11, 12], [14, 15, 16, 17, 18, 19, 20, 21, 22, 23, 24]), ([0, 1, 2, 3, 4, 5, 6, 7, 8, 9, 10, 11, 12, 13], [15, 16, 17, 18, 19, 20, 21, 22, 23, 24]), ([0, 1, 2, 3, 4, 5, 6, 7, 8, 9, 10, 11, 12, 13, 14], [16, 17, 19, 20, 23, 24]), ([0, 1, 2, 3, 4, 5, 6, 7, 8, 9, 10, 11, 12, 13, 14, 15], [17, 19, 20, 23, 24]), ([0, 1, 2, 3, 4, 5, 6, 7, 8, 9, 10, 11, 12, 13, 14, 15, 16], [19, 20, 23, 24]), ([0, 1, 2, 3, 4, 5, 6, 7, 8, 9, 10, 11, 12, 13, 14], [19, 20, 23, 24]), ([0, 1, 2, 3, 4, 5, 6, 7, 8, 9, 10, 11, 12, 13, 14, 15, 16, 17, 18], [20, 23, 24]), ([0, 1, 2, 3, 4, 5, 6, 7, 8, 9, 10, 11, 12, 13, 14, 15, 16, 17, 18, 19], [23, 24]), ([0, 1, 2, 3, 4, 5, 6, 7, 8, 9, 10, 11, 12, 13, 14], [22, 23, 24]), ([0, 1, 2, 3, 4, 5, 6, 7, 8, 9, 10, 11, 12, 13, 14, 21], [23, 24]), ([0, 1, 2, 3, 4, 5, 6, 7, 8, 9, 10, 11, 12, 13, 14, 15, 16, 17, 18, 19, 20, 21, 22], [24]), ([0, 1, 2, 3, 4, 5, 6, 7, 8, 9, 10, 11, 12, 13, 14, 15, 16, 17, 18, 19, 20, 21, 22, 23], [])] 25 mixed rfl (by kernel_rfl) ?_ ?_ ?_
   ·exact Le.lin [] hm rfl (sa2 (sa4 (kn (kn8 (kn8 (kn8 kz)))))) kz (ba (ba (ba (ba kz))))
   ·repeat' (first | exact trivial | refine ⟨⟨_, rfl, fun β => ?_⟩, ?_⟩ | fail)
    ·refine mv ?_; exact lx [] hm
    ·refine c0 27 ent52 (g52 k  (IntKind.i64.wrap (a1.Client - 3)) r10 hr10) ?_; exact lx [(26, 27)] hm
    ·refine nt ?_; exact lx [] hm
    ·refine mv ?_; exact L.nil (Le.lin [] hm rfl (sa (sa8 (sa (kn (kn4 (kn8 (kn8 kz)))) rfl rfl (congrArg (fun b => some (one (cL b))) hc11)))) kz (ba (ba (ba (ba kz)))))
    ·refine fa underlying130 info44 ?_; exact lx [] hm
    ·refine fa underlying44 info22 ?_; exact lx [] hm
    ·refine lp shape22 ?_; exact lx [] hm
    ·refine mv ?_; exact lx [] hm
    ·refine ix underlying22 info3 hb12 ?_; exact lx [] hm
    ·refine le shape3 ?_; exact lx [] hm
    ·refine fa underlying130 info3 ?_; exact lx [] hm
    ·refine lp shape3 ?_; exact lx [] hm
    ·refine bi ?_; exact lx [] hm
    ·refine pk ?_; exact lx [] hm
    ·refine mv ?_; exact L.nil (Le.lin [] hm rfl (sa4 (sa8 (sa8 (sa (kn2 (kn8 kz)) rfl rfl (congrArg (fun b => some (one (cL b))) hc13))))) kz (ba (ba (ba (ba kz)))))
    ·refine fa underlying130 info44 ?_; exact lx [] hm
    ·refine fa underlying44 info22 ?_; exact lx [] hm
    ·refine lp shape22 ?_; exact lx [] hm
    ·refine mv ?_; exact lx [] hm
    ·refine ix underlying22 info3 hb14 ?_; exact lx [] hm
    ·refine le shape3 ?_; exact lx [] hm
    ·refine fa underlying130 info3 ?_; exact lx [] hm
    ·refine lp shape3 ?_; exact lx [] hm
    ·refine bi ?_; exact lx [] hm
    ·refine pk ?_; exact lx [] hm
   refine ⟨_, (lm [(0, 22), (1, 23), (2, 24), (3, 25)] hm : Le _ _ (mkSt [(2, oI a2), (4, oP 0 0), (5, oP 1 0), (7, oP 2 0), (8, oP 3 0), (9, one (cI (IntKind.i64.wrap (a1.Client - 3)))), (41, oL (b14 != a0.realm))] [] [(0, (bT_asked g0 g1 g2 g3 g4 a0)), (1, (bT_Ticket g5 g6 a1)), (2, (bT_Rest a3)), (3, zc0)] 4)), ?_⟩; refine cd H (fun hc H => ?_) (fun hc H => ?_)
   ·refine sr ?_; refine bf built64 ?_; refine sp shape64 (L.nil ?_); cases H; exact WpC.ret rt
   ·refine WpC.skip (WpC.seq ?_); obtain ⟨b15, hb15, H⟩ := bindS H; obtain ⟨r16, hr16, H⟩ := bindS H; obtain ⟨r17, hr17, H⟩ := bindS H
    refine A.lin (fun β => mkStL [(2, iI a2), (4, iP 0 0), (5, iP 1 0), (7, iP 2 0), (8, iP 3 0), (9, ai (one (cI (IntKind.i64.wrap (a1.Client - 3))))), (10, lP (β 11) 14 0), (11, al (β 13) (one (cL r17.2))), (43, al (β 8) (Slot.tup [V.agg [cI r17.1.Client, cI r17.1.Service, cI r17.1.Key, cI r17.1.Rest.Servers, cI r17.1.Rest.Ops, cI r17.1.Rest.End, Cell.own 11, Cell.own 12], V.one (cL r17.2)])), (44, lP (β 0) 0 9), (45, al (β 1) (one (Cell.sl g4 (List.map eS a0.parts)))), (46, al (β 2) (one (Cell.pe g4 (eS b15) 0))), (47, al (β 3) (one (cS b15))), (48, lP (β 4) 1 0), (49, al (β 5) (one (cI a1.Client))), (50, lI (β 6) r16), (51, al (β 7) (Slot.tup [V.agg [cI r17.1.Client, cI r17.1.Service, cI r17.1.Key, cI r17.1.Rest.Servers, cI r17.1.Rest.Ops, cI r17.1.Rest.End, Cell.own 11, Cell.own 12], V.one (cL r17.2)])), (52, al (β 9) (agg [cI r17.1.Client, cI r17.1.Service, cI r17.1.Key, cI r17.1.Rest.Servers, cI r17.1.Rest.Ops, cI r17.1.Rest.End, Cell.own 11, Cell.own 12])), (53, al (β 10) (one (cL r17.2)))] [(11, al (β 7) (⟨1, List.map eI r17.1.Path⟩)), (12, al (β 7) (⟨1, List.map eI r17.1.Via⟩))] [(0, ai ((bT_asked g0 g1 g2 g3 g4 a0))), (1, ai ((bT_Ticket g5 g6 a1))), (2, ai ((bT_Rest a3))), (3, ai (zc0)), (14, [(β 12, some ([cI r17.1.Client, cI r17.1.Service, cI r17.1.Key, cI r17.1.Rest.Servers, cI r17.1.Rest.Ops, cI r17.1.Rest.End, Cell.own 11, Cell.own 12])), (β 11, some (zc1))])] 15) [([], [1, 2, 3, 7, 8, 9, 10, 12, 13]), ([0], [2, 3, 7, 8, 9, 10, 12, 13]), ([0, 1], [3, 7, 8, 9, 10, 12, 13]), ([0, 1, 2], [7, 8, 9, 10, 12, 13]), ([], [5, 6, 7, 8, 9, 10, 12, 13]), ([4], [6, 7, 8, 9, 10, 12, 13]), ([4, 5], [7, 8, 9, 10, 12, 13]), ([0, 1, 2, 3, 4, 5, 6], [8, 9, 10, 12, 13]), ([0, 1, 2, 3, 4, 5, 6, 7], [9, 10, 12, 13]), ([0, 1, 2, 3, 4, 5, 6, 7, 8], [12, 13]), ([0, 1, 2, 3, 4, 5, 6, 7, 8], [13]), ([], [12, 13]), ([0, 1, 2, 3, 4, 5, 6, 7, 8, 9, 11], [13]), ([0, 1, 2, 3, 4, 5, 6, 7, 8, 9, 10, 11, 12], [])] 14 mixed rfl (by kernel_rfl) ?_ ?_ ?_
    ·exact Le.lin [] hm rfl (sa2 (sa4 (kn (kn4 (kn8 kz))))) (kn2 kz) (ba (ba (ba (ba (kn kz)))))
    ·repeat' (first | exact trivial | refine ⟨⟨_, rfl, fun β => ?_⟩, ?_⟩ | fail)
     ·refine fa underlying130 info70 ?_; exact lx [] hm
     ·refine lp shape70 ?_; exact lx [] hm
     ·refine ix underlying70 info9 hb15 ?_; exact lx [] hm
     ·refine le shape9 ?_; exact lx [] hm
     ·refine fa underlying76 info3 ?_; exact lx [] hm
     ·refine lp shape3 ?_; exact lx [] hm
     ·refine c0 15 ent119 (g119 k  a1.Client r16 hr16) ?_; exact lx [(4, 15)] hm
     ·refine c0 15 ent118 (g118 k  b15 r16 r17 hr17) ?_; exact lx [(5, 15), (6, 16), (7, 17), (8, 18), (9, 19), (10, 20), (11, 21), (12, 22), (13, 23)] hm
     ·refine mv ?_; exact lx [] hm
     ·refine ex ?_; exact lx [] hm
     ·refine ex ?_; exact lx [] hm
     ·refine alc 15 info76 ?_; exact lx [(14, 15)] hm
     ·refine sp shape76 ?_; exact lx [] hm
     ·refine ag ?_; exact lx [] hm
    refine ⟨_, (lm [(0, 0), (1, 1), (2, 2), (3, 3), (4, 14), (5, 11), (6, 12)] hm : Le _ _ (mkSt [(2, oI a2), (4, oP 0 0), (5, oP 1 0), (7, oP 2 0), (8, oP 3 0), (9, one (cI (IntKind.i64.wrap (a1.Client - 3)))), (10, oP 4 0), (11, oL r17.2)] [(5, ⟨1, List.map eI r17.1.Path⟩), (6, ⟨1, List.map eI r17.1.Via⟩)] [(0, (bT_asked g0 g1 g2 g3 g4 a0)), (1, (bT_Ticket g5 g6 a1)), (2, (bT_Rest a3)), (3, zc0), (4, [cI r17.1.Client, cI r17.1.Service, cI r17.1.Key, cI r17.1.Rest.Servers, cI r17.1.Rest.Ops, cI r17.1.Rest.End, Cell.own 5, Cell.own 6])] 7)), ?_⟩; refine WpC.seq (WpC.block ?_)
    refine WpC.join (fun σ => ∃ (kj2 : Nat) (v34 v35 : Int) (v36 : Bool) (v37 : T_asked) (v38 : T_Ticket) (v39 : T_Rest) (v40 v41 v42 v43 v44 v45 : Int) (v46 v47 : List Int), kj2 ≤ K ∧ I_asked_delegate.j2 kj2 v34 v35 v36 v37 v38 v39 v40 v41 v42 v43 v44 v45 v46 v47 = some r ∧ σ = mkSt [(2, oI v34), (4, oP 0 0), (5, oP 1 0), (7, oP 2 0), (8, oP 3 0), (9, oI v35), (10, oP 4 0), (54, oL v36)] [(5, ⟨1, List.map eI v46⟩), (6, ⟨1, List.map eI v47⟩)] [(0, (bT_asked g0 g1 g2 g3 g4 v37)), (1, (bT_Ticket g5 g6 v38)), (2, (bT_Rest v39)), (3, zc0), (4, [cI v40, cI v41, cI v42, cI v43, cI v44, cI v45, Cell.own 5, Cell.own 6])] 7) ?_ ?_
    ·rintro _ ⟨kj2, v34, v35, v36, v37, v38, v39, v40, v41, v42, v43, v44, v45, v46, v47, hkj2, H, rfl⟩
     unfold I_asked_delegate.j2 at H; refine cd H (fun hc H => ?_) (fun hc H => ?_)
     ·refine sr ?_; refine bf built64 ?_; refine sp shape64 (L.nil ?_); cases H; exact WpC.ret rt
     ·refine sr ?_; refine fa underlying130 info3 ?_; refine lp shape3 ?_; refine fa underlying76 info37 ?_; refine fa underlying37 info3 ?_; refine lp shape3 ?_; refine bi ?_; refine ag (L.nil ?_); refine cd H (fun hc H => ?_) (fun hc H => ?_)
      ·refine sr ?_; refine bf built64 ?_; refine sp shape64 (L.nil ?_); cases H; exact WpC.ret rt
      ·refine sr ?_; refine fa underlying130 info44 ?_; refine fa underlying44 info42 ?_; refine lp shape42 ?_; refine mv ?_; refine mv ?_; refine bf built147 ?_; obtain ⟨r49, hr49, H⟩ := bindS H; refine c0 7 ent172 (g172 kj2 g3 v37.c.Proxy (⟨v35, v34⟩ : T_Pair) r49 hr49) ?_; refine nt ?_; refine mv ?_; refine sH H (fun hc H => ?_) (fun hc H => ?_)
       ·(repeat refine of ?_); refine pk ?_; refine ag (L.nil ?_); refine cT ?_; refine sr ?_; refine bf built64 ?_; refine sp shape64 (L.nil ?_); cases H; exact WpC.ret rt
       ·refine fa underlying76 info22 ?_; refine lp shape22 ?_; refine L.lenR (xs := v47) (e := eI) underlying22 hF rfl rfl rfl rfl ?_; refine bi ?_; refine pk ?_; refine ag (L.nil ?_); refine cd H (fun hc H => ?_) (fun hc H => ?_)
        ·refine sr ?_; refine bf built64 ?_; refine sp shape64 (L.nil ?_); cases H; exact WpC.ret rt
        ·refine WpC.skip (WpC.seq ?_); obtain ⟨r50, hr50, H⟩ := bindS H; obtain ⟨r51, hr51, H⟩ := bindS H; obtain ⟨h52, H⟩ := condG H
         refine A.lin (fun β => mkStL [(2, iI v34), (4, iP 0 0), (5, iP 1 0), (7, iP 2 0), (8, iP 3 0), (9, iI v35), (10, iP 4 0), (12, lP (β 18) 14 0), (88, lP (β 0) 4 0), (89, lI (β 1) v40), (90, lI (β 2) v34), (91, lP (β 3) 0 7), (92, al (β 4) (one (cI v37.fresh))), (93, lP (β 5) 4 3), (94, al (β 6) (agg [cI v43, cI v44, cI v45])), (95, al (β 7) (agg (bT_Rest v39))), (96, al (β 8) (agg (bT_Rest r50))), (97, lP (β 9) 4 6), (98, al (β 10) (one (Cell.own 5))), (99, lP (β 11) 4 7), (100, al (β 12) (one (Cell.own 6))), (101, al (β 13) (one (Cell.own 11))), (102, lI (β 14) v35), (103, al (β 15) (one (Cell.own 12))), (104, al (β 16) (one (Cell.own 13))), (105, al (β 17) (agg [cI v40, cI v34, cI v37.fresh, cI r50.Servers, cI r50.Ops, cI r50.End, Cell.own 5, Cell.own 13]))] [(5, ai (⟨1, List.map eI v46⟩)), (6, ai (⟨1, List.map eI v47⟩)), (11, [(β 16, none), (β 13, some (⟨1, List.map eI r51⟩))]), (12, al (β 15) (⟨1, List.map eI ([v35] : List Int)⟩)), (13, al (β 16) (⟨1, List.map eI (r51 ++ ([v35] : List Int))⟩))] [(0, ai ((bT_asked g0 g1 g2 g3 g4 v37))), (1, ai ((bT_Ticket g5 g6 v38))), (2, ai ((bT_Rest v39))), (3, ai (zc0)), (4, ai ([cI v40, cI v41, cI v42, cI v43, cI v44, cI v45, Cell.own 5, Cell.own 6])), (14, [(β 19, some ([cI v40, cI v34, cI v37.fresh, cI r50.Servers, cI r50.Ops, cI r50.End, Cell.own 5, Cell.own 13])), (β 18, some (zc1))])] 15) [([], [1, 17, 19]), ([0], [17, 19]), ([], [17, 19]), ([], [4, 17, 19]), ([3], [17, 19]), ([], [6, 8, 13, 16, 17, 19]), ([5], [8, 13, 16, 17, 19]), ([], [8, 13, 16, 17, 19]), ([5, 6, 7], [13, 16, 17, 19]), ([], [10, 17, 19]), ([9], [17, 19]), ([], [12, 13, 16, 17, 19]), ([11], [13, 16, 17, 19]), ([5, 6, 7, 8, 11, 12], [16, 17, 19]), ([], [15, 16, 17, 19]), ([14], [16, 17, 19]), ([5, 6, 7, 8, 11, 12, 13, 14, 15], [17, 19]), ([0, 1, 2, 3, 4, 5, 6, 7, 8, 9, 10, 11, 12, 13, 14, 15, 16], [19]), ([], [19]), ([0, 1, 2, 3, 4, 5, 6, 7, 8, 9, 10, 11, 12, 13, 14, 15, 16, 17, 18], [])] 20 mixed rfl (by kernel_rfl) ?_ ?_ ?_
         ·exact Le.lin [] hm rfl (sa (sa2 (sa4 (kn (kn2 (kn8 (kn8 kz))))))) (ra (ra (kn (kn2 kz)))) (ba (ba (ba (ba (ba (kn kz))))))
         ·repeat' (first | exact trivial | refine ⟨⟨_, rfl, fun β => ?_⟩, ?_⟩ | fail)
          ·refine fa underlying76 info3 ?_; exact lx [] hm
          ·refine lp shape3 ?_; exact lx [] hm
          ·refine mv ?_; exact lx [] hm
          ·refine fa underlying130 info3 ?_; exact lx [] hm
          ·refine lp shape3 ?_; exact lx [] hm
          ·refine fa underlying76 info37 ?_; exact lx [] hm
          ·refine lp shape37 ?_; exact lx [] hm
          ·refine lp shape37 ?_; exact lx [] hm
          ·refine c0 15 ent160 (g160 kj2  (⟨v43, v44, v45⟩ : T_Rest) v39 r50 hr50) ?_; exact lx [(8, 15), (9, 16), (10, 17)] hm
          ·refine fa underlying76 info22 ?_; exact lx [] hm
          ·refine lp shape22 ?_; exact lx [] hm
          ·refine fa underlying76 info22 ?_; exact lx [] hm
          ·refine lp shape22 ?_; exact lx [] hm
          ·refine ca [false] [6] [] 15 ent58 (g58 kj2 false v47 r51 hr51) ?_; exact lx [(11, 15)] hm
          ·refine mv ?_; exact lx [] hm
          ·refine L.buildSlice (e := eI) 15 ([v35] : List Int) underlying22 info3 rfl rfl rfl hF rfl rfl rfl rfl rfl rfl rfl rfl ?_; exact lx [(12, 15)] hm
          ·refine L.append (xs := r51) (ys := ([v35] : List Int)) (e := eI) 15 underlying22 info3 rfl rfl hF rfl rfl rfl rfl rfl rfl rfl rfl (fun _ => rfl) (fun _ _ h1 h2 => by cases h1; cases h2; rfl) ⟨_, underlying22⟩ (of_decide_eq_true h52) rfl rfl ?_; exact lx [(13, 15)] hm
          ·refine bf built76 ?_; exact lx [] hm
          ·refine alc 15 info76 ?_; exact lx [(14, 15)] hm
          ·refine sp shape76 ?_; exact lx [] hm
         refine ⟨_, (lm [(0, 0), (1, 1), (2, 3), (3, 4), (4, 14), (5, 5), (6, 6), (7, 13)] hm : Le _ _ (mkSt [(2, oI v34), (4, oP 0 0), (5, oP 1 0), (8, oP 2 0), (10, oP 3 0), (12, oP 4 0)] [(5, ⟨1, List.map eI v46⟩), (6, ⟨1, List.map eI v47⟩), (7, ⟨1, List.map eI (r51 ++ ([v35] : List Int))⟩)] [(0, (bT_asked g0 g1 g2 g3 g4 v37)), (1, (bT_Ticket g5 g6 v38)), (2, zc0), (3, [cI v40, cI v41, cI v42, cI v43, cI v44, cI v45, Cell.own 5, Cell.own 6]), (4, [cI v40, cI v34, cI v37.fresh, cI r50.Servers, cI r50.Ops, cI r50.End, Cell.own 5, Cell.own 7])] 8)), ?_⟩; refine sr ?_; refine fa underlying76 info3 ?_; refine lp shape3 ?_; refine fa underlying76 info3 ?_; refine lp shape3 ?_; refine fa underlying76 info3 ?_; refine lp shape3 ?_; refine fa underlying76 info3 ?_; refine lp shape3 ?_; refine bf built62 ?_; refine alc 8 info62 ?_; refine sp shape62 (L.nil ?_); refine WpC.seq ?_; obtain ⟨r53, hr53, H⟩ := bindS H; obtain ⟨r54, hr54, H⟩ := bindS H
         refine A.lin (fun β => mkStL [(2, iI v34), (4, iP 0 0), (5, iP 1 0), (8, iP 2 0), (12, iP 4 0), (13, iP 8 0), (115, al (β 0) (agg (bT_asked g0 g1 g2 g3 g4 v37))), (116, al (β 1) (agg [cI 4, cI 0, cI v38.Client, cI v40, cI 0, cI 0, cI v38.Key, cI v42, cI 0, cI 0, cI 0])), (117, al (β 2) (agg [cI v40, cI v34, cI v37.fresh, cI r50.Servers, cI r50.Ops, cI r50.End, Cell.own 5, Cell.own 7])), (118, lI (β 3) v34), (119, al (β 4) (one (cI (IntKind.i64.wrap (3 + v34))))), (120, lI (β 5) r53), (121, lP (β 6) 1 2), (122, al (β 7) (one (cI v38.Key))), (123, al (β 8) (agg (bT_Reply r54)))] [(5, ai (⟨1, List.map eI v46⟩)), (7, ai (⟨1, List.map eI (r51 ++ ([v35] : List Int))⟩))] [(0, ai ((bT_asked g0 g1 g2 g3 g4 v37))), (1, ai ((bT_Ticket g5 g6 v38))), (2, [(β 9, some ((bT_Reply r54))), (true, some (zc0))]), (4, ai ([cI v40, cI v34, cI v37.fresh, cI r50.Servers, cI r50.Ops, cI r50.End, Cell.own 5, Cell.own 7])), (8, ai ([cI 4, cI 0, cI v38.Client, cI v40, cI 0, cI 0, cI v38.Key, cI v42, cI 0, cI 0, cI 0]))] 23) [([], [8, 9]), ([], [8, 9]), ([], [8, 9]), ([], [4, 5, 8, 9]), ([3], [5, 8, 9]), ([3, 4], [8, 9]), ([], [7, 8, 9]), ([6], [8, 9]), ([0, 1, 2, 3, 4, 5, 6, 7], [9]), ([0, 1, 2, 3, 4, 5, 6, 7, 8], [])] 10 mixed rfl (by kernel_rfl) ?_ ?_ ?_
         ·exact Le.lin [] hm rfl (sa2 (sa4 (kn (kn8 kz)))) (ra (ra kz)) (ba (ba (ba (ba (ba kz)))))
         ·repeat' (first | exact trivial | refine ⟨⟨_, rfl, fun β => ?_⟩, ?_⟩ | fail)
          ·refine lp shape130 ?_; exact lx [] hm
          ·refine lp shape62 ?_; exact lx [] hm
          ·refine lp shape76 ?_; exact lx [] hm
          ·refine mv ?_; exact lx [] hm
          ·refine bi ?_; exact lx [] hm
          ·refine c0 23 ent119 (g119 kj2  (IntKind.i64.wrap (3 + v34)) r53 hr53) ?_; exact lx [(9, 23)] hm
          ·refine fa underlying76 info3 ?_; exact lx [] hm
          ·refine lp shape3 ?_; exact lx [] hm
          ·refine ca [false, false, false, false, false] [5, 7] [] 23 ent154 (g154 kj2 g0 g1 g2 g3 g4 false false v37 (⟨4, 0, v38.Client, v40, 0, 0, v38.Key, v42, (⟨0, 0, 0⟩ : T_Rest)⟩ : T_Event) (⟨v40, v34, v37.fresh, r50, v46, (r51 ++ ([v35] : List Int))⟩ : T_Ticket) r53 v38.Key r54 hr54) ?_; exact lx [(10, 23), (11, 24), (12, 25), (13, 26), (14, 27), (15, 28), (16, 29), (17, 30), (18, 31), (19, 32), (20, 33), (21, 34), (22, 35)] hm
          ·refine sp shape64 ?_; exact lx [] hm
         refine ⟨_, (lm [(0, 2)] hm : Le _ _ (mkSt [(8, oP 0 0)] [] [(0, (bT_Reply r54))] 1)), ?_⟩; cases H; exact WpC.ret rt
    ·refine WpC.regionL ?_; refine mv ?_; refine nt ?_; refine mv ?_; refine sH H (fun hc H => ?_) (fun hc H => ?_)
     ·(repeat refine of ?_); refine pk ?_; refine ag (L.nil ?_); exact ⟨_, ⟨k, a2, (IntKind.i64.wrap (a1.Client - 3)), true, a0, a1, a3, r17.1.Client, r17.1.Service, r17.1.Key, r17.1.Rest.Servers, r17.1.Rest.Ops, r17.1.Rest.End, r17.1.Path, r17.1.Via, by omega, H, rfl⟩, lm [(0, 0), (1, 1), (2, 2), (3, 3), (4, 4), (5, 5), (6, 6)] hm⟩
     ·refine fa underlying76 info3 ?_; refine lp shape3 ?_; refine mv ?_; refine bi ?_; refine pk ?_; refine ag (L.nil ?_); exact ⟨_, ⟨k, a2, (IntKind.i64.wrap (a1.Client - 3)), (r17.1.Service != (IntKind.i64.wrap (a1.Client - 3))), a0, a1, a3, r17.1.Client, r17.1.Service, r17.1.Key, r17.1.Rest.Servers, r17.1.Rest.Ops, r17.1.Rest.End, r17.1.Path, r17.1.Via, by omega, H, rfl⟩, lm [(0, 0), (1, 1), (2, 2), (3, 3), (4, 4), (5, 5), (6, 6)] hm⟩
/-! ### I_far -/
def I_far.j19 (cl17 : Int → Int → Int → Int → T_Config → Int → Int → Option Int) (k : Nat) (v185 v186 v187 v188 : Int) (v189 : T_Config) (v190 v191 : Int) : Option Int := cl17 v185 v186 v187 v188 v189 v190 (IntKind.i64.wrap (v191 + 1))
def I_far.j20 (cREC : T_Config → Int → Int → Int → Option Int) (cl17 : Int → Int → Int → Int → T_Config → Int → Int → Option Int) (k : Nat) (v193 v194 v195 v196 : Int) (v197 : T_Config) (v198 v199 : Int) (v200 : Bool) (v201 : T_Pair) : Option Int := cond v200 ((cREC v197 v201.B v194 (IntKind.i64.wrap (v195 - 1))).bind fun r202 => I_far.j19 cl17 k v193 v194 v195 (if (IntKind.i64.wrap (1 + r202)) < v196 then (IntKind.i64.wrap (1 + r202)) else v196) v197 v198 v199) (I_far.j19 cl17 k v193 v194 v195 v196 v197 v198 v199)
def I_far.l17 (cREC : T_Config → Int → Int → Int → Option Int) : Nat → Int → Int → Int → Int → T_Config → Int → Int → Option Int
 | 0, _, _, _, _, _, _, _ => none
 | k17 + 1, v167, v168, v169, v170, v171, v172, v173 => cond (decide (v173 < v172)) ((at? v171.Links v173).bind fun b192 => cond (b192.A == v167) (I_far.j20 cREC (I_far.l17 cREC k17) k17 v167 v168 v169 v170 v171 v172 v173 (decide (v169 > 0)) b192) (I_far.j20 cREC (I_far.l17 cREC k17) k17 v167 v168 v169 v170 v171 v172 v173 false b192)) (some v170)
def I_far : Nat → T_Config → Int → Int → Int → Option Int
 | 0, _, _, _, _ => none
 | k + 1, a0, a1, a2, a3 => cond (a1 == a2) (some 0) (I_far.l17 (I_far k) k a1 a2 a3 3 a0 (a0.Links.length : Int) 0)
theorem ent190 : MG.Enters Tryz.prog 190 := ⟨Tryz.f190, func190, rfl, by decide⟩
theorem g190 : ∀ (k : Nat) (g0 g1 g2 g3 : Bool) (a0 : T_Config) (a1 a2 a3 r : Int) (H : I_far k a0 a1 a2 a3 = some r), Gives Tryz.prog 190 [V.agg (bT_Config g0 g1 g2 g3 a0), V.one (cI a1), V.one (cI a2), V.one (cI a3)] [] [V.one (cI r)] [] := by
 intro k
 induction k with
 | zero => intros; rename_i H; cases H
 | succ k ih =>
  intro g0 g1 g2 g3 a0 a1 a2 a3 r H; refine Gives.intro func190 rfl rfl rfl rfl ?_; refine fx fun w0 T S0 ob oh hm => ?_
  have hF := fxe w0 T S0 42 ob oh
  rw [I_far] at H
  obtain ⟨K, hK⟩ := leK k; refine sr ?_; refine bo 8 ?_; refine ag (L.nil ?_); refine WpC.seq (sr ?_); refine mv ?_; refine mv ?_; refine bi (L.nil ?_); refine cd H (fun hc H => ?_) (fun hc H => ?_)
  ·refine sr ?_; refine ag (L.nil ?_); cases H; exact WpC.ret rt
  ·refine WpC.skip (sr ?_); refine ag (L.nil ?_); refine WpC.seq (sr ?_); refine fa underlying44 info42 ?_; refine lp shape42 ?_; refine L.lenR (xs := a0.Links) (e := eT_Pair) underlying42 hF rfl rfl rfl rfl ?_; refine mv (L.nil ?_); refine WpC.block ?_; refine WpC.loopL (P := Tryz.prog) (fun n σ => ∃ (v167 v168 v169 v170 : Int) (v171 : T_Config) (v172 v173 : Int), n ≤ K ∧ I_far.l17 (I_far k) n v167 v168 v169 v170 v171 v172 v173 = some r ∧ σ = mkSt [(1, oI v167), (2, oI v168), (3, oI v169), (4, oP 0 0), (9, oI v170), (16, one (Cell.sl g2 (List.map eT_Pair v171.Links))), (17, oI v172), (18, oI v173)] [] [(0, (bT_Config g0 g1 g2 g3 v171))] 1) k ⟨_, ⟨a1, a2, a3, 3, a0, (a0.Links.length : Int), 0, by omega, H, rfl⟩, lm [(0, 8)] hm⟩ ?_; clear H
   rintro k17 _ ⟨v167, v168, v169, v170, v171, v172, v173, hk17, H, rfl⟩
   cases k17 with
   | zero => cases H
   | succ k17 =>
    rw [I_far.l17] at H
    refine sr ?_; refine bi (L.nil ?_); refine WpC.seq ?_; refine cd H (fun hc H => ?_) (fun hc H => ?_)
    ·refine WpC.skip ?_; refine WpC.join (fun σ => ∃ (kj19 : Nat) (v185 v186 v187 v188 : Int) (v189 : T_Config) (v190 v191 : Int), kj19 ≤ K ∧ I_far.j19 (I_far.l17 (I_far k) k17) kj19 v185 v186 v187 v188 v189 v190 v191 = some r ∧ σ = mkSt [(1, oI v185), (2, oI v186), (3, oI v187), (4, oP 0 0), (9, oI v188), (16, one (Cell.sl g2 (List.map eT_Pair v189.Links))), (17, oI v190), (18, oI v191)] [] [(0, (bT_Config g0 g1 g2 g3 v189))] 1) ?_ ?_
     ·rintro _ ⟨kj19, v185, v186, v187, v188, v189, v190, v191, hkj19, H, rfl⟩
      unfold I_far.j19 at H; refine WpC.regionL ?_; refine bi ?_; refine mv (L.nil ?_); exact ⟨k17, _, by omega, ⟨v185, v186, v187, v188, v189, v190, (IntKind.i64.wrap (v191 + 1)), by omega, H, rfl⟩, lm [(0, 0)] hm⟩
     ·refine WpC.block (sr ?_); obtain ⟨b192, hb192, H⟩ := bindS H; refine ix underlying42 info147 hb192 ?_; refine le shape147 ?_; refine alc 1 info147 ?_; refine sp shape147 (L.nil ?_); refine WpC.join (fun σ => ∃ (kj20 : Nat) (v193 v194 v195 v196 : Int) (v197 : T_Config) (v198 v199 : Int) (v200 : Bool) (v201 : T_Pair), kj20 ≤ K ∧ I_far.j20 (I_far k) (I_far.l17 (I_far k) k17) kj20 v193 v194 v195 v196 v197 v198 v199 v200 v201 = some r ∧ σ = mkSt [(1, oI v193), (2, oI v194), (3, oI v195), (4, oP 0 0), (9, oI v196), (11, oP 1 0), (16, one (Cell.sl g2 (List.map eT_Pair v197.Links))), (17, oI v198), (18, oI v199), (29, oL v200)] [] [(0, (bT_Config g0 g1 g2 g3 v197)), (1, [cI v201.A, cI v201.B])] 2) ?_ ?_
      ·rintro _ ⟨kj20, v193, v194, v195, v196, v197, v198, v199, v200, v201, hkj20, H, rfl⟩
       unfold I_far.j20 at H; refine cd H (fun hc H => ?_) (fun hc H => ?_)
       ·refine WpC.regionL ?_; refine mv ?_; refine lp shape44 ?_; refine fa underlying147 info3 ?_; refine lp shape3 ?_; refine mv ?_; refine mv ?_; refine bi ?_; obtain ⟨r202, hr202, H⟩ := bindS H; refine c0 2 ent190 (ih g0 g1 g2 g3 v197 v201.B v194 (IntKind.i64.wrap (v195 - 1)) r202 hr202) ?_; refine bi ?_; refine L.minI hF rfl rfl rfl rfl ?_; refine ag (L.nil ?_); exact ⟨_, ⟨kj20, v193, v194, v195, (if (IntKind.i64.wrap (1 + r202)) < v196 then (IntKind.i64.wrap (1 + r202)) else v196), v197, v198, v199, by omega, H, rfl⟩, lm [(0, 0)] hm⟩
       ·refine WpC.skip ?_; exact ⟨_, ⟨kj20, v193, v194, v195, v196, v197, v198, v199, by omega, H, rfl⟩, lm [(0, 0)] hm⟩
      ·refine WpC.regionL ?_; refine fa underlying147 info3 ?_; refine lp shape3 ?_; refine mv ?_; refine bi ?_; refine mv ?_; refine sH H (fun hc H => ?_) (fun hc H => ?_)
       ·refine mv ?_; refine bi ?_; refine pk (L.nil ?_); exact ⟨_, ⟨k17, v167, v168, v169, v170, v171, v172, v173, (decide (v169 > 0)), b192, by omega, H, rfl⟩, lm [(0, 0), (1, 1)] hm⟩
       ·(repeat refine of ?_); refine pk (L.nil ?_); exact ⟨_, ⟨k17, v167, v168, v169, v170, v171, v172, v173, false, b192, by omega, H, rfl⟩, lm [(0, 0), (1, 1)] hm⟩
    ·refine WpC.exit (sr ?_); refine mv ?_; refine ag (L.nil ?_); cases H; exact WpC.ret rt
/-! ### I_NextHop -/
def I_NextHop.j19 (cl17 : Int → Int → Int → Int → Int → T_Config → Option Int) (k : Nat) (v180 v181 v182 v183 v184 : Int) (v185 : T_Config) : Option Int := cl17 v180 v181 v182 v183 (IntKind.i64.wrap (v184 + 1)) v185
def I_NextHop.j20 (cl17 : Int → Int → Int → Int → Int → T_Config → Option Int) (k : Nat) (v188 v189 v190 v191 v192 v193 : Int) (v194 : Bool) (v195 : T_Config) : Option Int := cond v194 (I_NextHop.j19 cl17 k v188 v189 v192 v193 v192 v195) (I_NextHop.j19 cl17 k v188 v189 v190 v191 v192 v195)
def I_NextHop.l17 : Nat → Int → Int → Int → Int → Int → T_Config → Option Int
 | 0, _, _, _, _, _, _ => none
 | k17 + 1, v163, v164, v165, v166, v167, v168 => cond (decide (v167 < 3)) ((I_far k17 v168 v167 v164 3).bind fun r186 => (V_Contains_Pair k17 v168.Links (⟨v163, v167⟩ : T_Pair)).bind fun r196 => cond r196 (I_NextHop.j20 (I_NextHop.l17 k17) k17 v163 v164 v165 v166 v167 r186 (decide (r186 < v166)) v168) (I_NextHop.j20 (I_NextHop.l17 k17) k17 v163 v164 v165 v166 v167 r186 false v168)) (some v165)
def I_NextHop (k : Nat) (a0 : T_Config) (a1 a2 : Int) : Option Int := (I_ConfigOk k a0).bind fun r10 => cond (!r10) (some (-1)) ((I_isRealm k a1).bind fun r11 => cond (!r11) (some (-1)) ((I_isRealm k a2).bind fun r12 => cond (!r12) (some (-1)) (cond (a1 == a2) (some (-1)) (I_NextHop.l17 k a1 a2 (-1) 3 0 a0))))
theorem ent161 : MG.Enters Tryz.prog 161 := ⟨Tryz.f161, func161, rfl, by decide⟩
theorem g161 (k : Nat) (g0 g1 g2 g3 : Bool) (a0 : T_Config) (a1 a2 r : Int) (H : I_NextHop k a0 a1 a2 = some r) : Gives Tryz.prog 161 [V.agg (bT_Config g0 g1 g2 g3 a0), V.one (cI a1), V.one (cI a2)] [] [V.one (cI r)] [] := by
 refine Gives.intro func161 rfl rfl rfl rfl ?_; refine fx fun w0 T S0 ob oh hm => ?_
 have hF := fxe w0 T S0 51 ob oh
 unfold I_NextHop at H; obtain ⟨K, hK⟩ := leK k; refine sr ?_; refine bo 7 ?_; refine ag (L.nil ?_); refine WpC.seq (sr ?_); refine lp shape44 ?_; obtain ⟨r10, hr10, H⟩ := bindS H; refine c0 8 ent51 (g51 k g0 g1 g2 g3 a0 r10 hr10) ?_; refine nt ?_; refine mv ?_; refine sH H (fun hc H => ?_) (fun hc H => ?_)
 ·(repeat refine of ?_); refine pk ?_; refine mv ?_; (repeat refine of ?_); refine pk ?_; refine mv ?_; (repeat refine of ?_); refine pk (L.nil ?_); refine cT ?_; refine sr ?_; refine ag (L.nil ?_); cases H; exact WpC.ret rt
 ·refine mv ?_; obtain ⟨r11, hr11, H⟩ := bindS H; refine c0 9 ent89 (g89 k  a1 r11 hr11) ?_; refine nt ?_; refine pk ?_; refine mv ?_; refine sH H (fun hc H => ?_) (fun hc H => ?_)
  ·(repeat refine of ?_); refine pk ?_; refine mv ?_; (repeat refine of ?_); refine pk (L.nil ?_); refine cT ?_; refine sr ?_; refine ag (L.nil ?_); cases H; exact WpC.ret rt
  ·refine mv ?_; obtain ⟨r12, hr12, H⟩ := bindS H; refine c0 10 ent89 (g89 k  a2 r12 hr12) ?_; refine nt ?_; refine pk ?_; refine mv ?_; refine sH H (fun hc H => ?_) (fun hc H => ?_)
   ·(repeat refine of ?_); refine pk (L.nil ?_); refine cT ?_; refine sr ?_; refine ag (L.nil ?_); cases H; exact WpC.ret rt
   ·refine mv ?_; refine mv ?_; refine bi ?_; refine pk (L.nil ?_); refine cd H (fun hc H => ?_) (fun hc H => ?_)
    ·refine sr ?_; refine ag (L.nil ?_); cases H; exact WpC.ret rt
    ·refine WpC.skip (sr ?_); refine ag ?_; refine ag (L.nil ?_); refine WpC.seq (sr ?_); refine mv (L.nil ?_); refine WpC.block ?_; refine WpC.loopL (P := Tryz.prog) (fun n σ => ∃ (v163 v164 v165 v166 v167 : Int) (v168 : T_Config), n ≤ K ∧ I_NextHop.l17 n v163 v164 v165 v166 v167 v168 = some r ∧ σ = mkSt [(1, oI v163), (2, oI v164), (3, oP 0 0), (7, oI v165), (8, oI v166), (29, oI v167)] [] [(0, (bT_Config g0 g1 g2 g3 v168))] 1) k ⟨_, ⟨a1, a2, (-1), 3, 0, a0, by omega, H, rfl⟩, lm [(0, 7)] hm⟩ ?_; clear H
     rintro k17 _ ⟨v163, v164, v165, v166, v167, v168, hk17, H, rfl⟩
     cases k17 with
     | zero => cases H
     | succ k17 =>
      rw [I_NextHop.l17] at H
      refine sr ?_; refine bi (L.nil ?_); refine WpC.seq ?_; refine cd H (fun hc H => ?_) (fun hc H => ?_)
      ·refine WpC.skip ?_; refine WpC.join (fun σ => ∃ (kj19 : Nat) (v180 v181 v182 v183 v184 : Int) (v185 : T_Config), kj19 ≤ K ∧ I_NextHop.j19 (I_NextHop.l17 k17) kj19 v180 v181 v182 v183 v184 v185 = some r ∧ σ = mkSt [(1, oI v180), (2, oI v181), (3, oP 0 0), (7, oI v182), (8, oI v183), (29, oI v184)] [] [(0, (bT_Config g0 g1 g2 g3 v185))] 1) ?_ ?_
       ·rintro _ ⟨kj19, v180, v181, v182, v183, v184, v185, hkj19, H, rfl⟩
        unfold I_NextHop.j19 at H; refine WpC.regionL ?_; refine bi ?_; refine mv (L.nil ?_); exact ⟨k17, _, by omega, ⟨v180, v181, v182, v183, (IntKind.i64.wrap (v184 + 1)), v185, by omega, H, rfl⟩, lm [(0, 0)] hm⟩
       ·refine WpC.block (sr ?_); refine mv ?_; refine ag (L.nil ?_); refine sr ?_; refine lp shape44 ?_; refine mv ?_; refine mv ?_; obtain ⟨r186, hr186, H⟩ := bindS H; refine c0 1 ent190 (g190 k17 g0 g1 g2 g3 v168 v167 v164 3 r186 hr186) ?_; refine ag (L.nil ?_); refine WpC.join (fun σ => ∃ (kj20 : Nat) (v188 v189 v190 v191 v192 v193 : Int) (v194 : Bool) (v195 : T_Config), kj20 ≤ K ∧ I_NextHop.j20 (I_NextHop.l17 k17) kj20 v188 v189 v190 v191 v192 v193 v194 v195 = some r ∧ σ = mkSt [(1, oI v188), (2, oI v189), (3, oP 0 0), (7, oI v190), (8, oI v191), (9, oI v192), (10, oI v193), (29, oI v192), (46, oL v194)] [] [(0, (bT_Config g0 g1 g2 g3 v195))] 1) ?_ ?_
        ·rintro _ ⟨kj20, v188, v189, v190, v191, v192, v193, v194, v195, hkj20, H, rfl⟩
         unfold I_NextHop.j20 at H; refine cd H (fun hc H => ?_) (fun hc H => ?_)
         ·refine WpC.regionL ?_; refine mv ?_; refine mv ?_; refine ag ?_; refine ag (L.nil ?_); exact ⟨_, ⟨kj20, v188, v189, v192, v193, v192, v195, by omega, H, rfl⟩, lm [(0, 0)] hm⟩
         ·refine WpC.skip ?_; exact ⟨_, ⟨kj20, v188, v189, v190, v191, v192, v195, by omega, H, rfl⟩, lm [(0, 0)] hm⟩
        ·refine WpC.regionL ?_; refine fa underlying44 info42 ?_; refine lp shape42 ?_; refine mv ?_; refine mv ?_; refine bf built147 ?_; obtain ⟨r196, hr196, H⟩ := bindS H; refine c0 2 ent172 (g172 k17 g2 v168.Links (⟨v163, v167⟩ : T_Pair) r196 hr196) ?_; refine mv ?_; refine sH H (fun hc H => ?_) (fun hc H => ?_)
         ·refine mv ?_; refine mv ?_; refine bi ?_; refine pk (L.nil ?_); exact ⟨_, ⟨k17, v163, v164, v165, v166, v167, r186, (decide (r186 < v166)), v168, by omega, H, rfl⟩, lm [(0, 0)] hm⟩
         ·(repeat refine of ?_); refine pk (L.nil ?_); exact ⟨_, ⟨k17, v163, v164, v165, v166, v167, r186, false, v168, by omega, H, rfl⟩, lm [(0, 0)] hm⟩
      ·refine WpC.exit (sr ?_); refine mv ?_; refine ag (L.nil ?_); cases H; exact WpC.ret rt
/-! ### I_asked_ask -/
def I_asked_ask.j3 (k : Nat) (v57 v58 : Int) (v59 : T_asked) (v60 v61 v62 : Int) (v63 : T_Rest) (v64 v65 : List Int) : Option T_Reply := (I_asked_given k v59 (⟨v60, 0, v61, v61, 0, 0, v57, 0, (⟨0, 0, 0⟩ : T_Rest)⟩ : T_Event) (⟨v61, v62, v59.fresh, v63, v64, v65⟩ : T_Ticket) v58 v57).bind fun r66 => some r66
def I_asked_ask.j2 (k : Nat) (v31 : Int) (v32 : Bool) (v33 : T_asked) (v34 v35 v36 v37 v38 v39 v40 v41 v42 : Int) (v43 v44 : List Int) (v45 v46 v47 : Int) : Option T_Reply := cond v32 (some (⟨2, ([] : List UInt8), (⟨0, 0, 0, 0, 0, 0, 0, 0, (⟨0, 0, 0⟩ : T_Rest)⟩ : T_Event)⟩ : T_Reply)) ((I_apart k v46 v33.now).bind fun r48 => cond (decide (r48 > v33.c.Skew)) (some (⟨3, ([] : List UInt8), (⟨0, 0, 0, 0, 0, 0, 0, 0, (⟨0, 0, 0⟩ : T_Rest)⟩ : T_Event)⟩ : T_Reply)) (cond (decide (v33.now > v42)) (some (⟨4, ([] : List UInt8), (⟨0, 0, 0, 0, 0, 0, 0, 0, (⟨0, 0, 0⟩ : T_Rest)⟩ : T_Event)⟩ : T_Reply)) (cond (decide ((v43.length : Int) > 6)) (some (⟨5, ([] : List UInt8), (⟨0, 0, 0, 0, 0, 0, 0, 0, (⟨0, 0, 0⟩ : T_Rest)⟩ : T_Event)⟩ : T_Reply)) ((at? v33.parts 4).bind fun b49 => (I_Atom k ([] : List UInt8)).bind fun r50 => cond (b49 != r50) ((I_asked_delegate k v33 (⟨v37, v38, v39, (⟨v40, v41, v42⟩ : T_Rest), v43, v44⟩ : T_Ticket) v31 (⟨v34, v35, v36⟩ : T_Rest)).bind fun r51 => some r51) ((at? v33.c.ServiceRealm v31).bind fun b52 => (I_PrincipalKey k (IntKind.i64.wrap (3 + v31))).bind fun r53 => (I_Meet k (⟨v40, v41, v42⟩ : T_Rest) (⟨v34, v35, v36⟩ : T_Rest)).bind fun r54 => cond (b52 != v33.realm) ((I_NextHop k v33.c v33.realm b52).bind fun r67 => cond (decide (r67 < 0)) (some (⟨5, ([] : List UInt8), (⟨0, 0, 0, 0, 0, 0, 0, 0, (⟨0, 0, 0⟩ : T_Rest)⟩ : T_Event)⟩ : T_Reply)) ((I_LinkKey k v33.realm r67).bind fun r68 => I_asked_ask.j3 k v39 r68 v33 3 v37 (IntKind.i64.wrap (10 + r67)) r54 v43 v44)) (I_asked_ask.j3 k v39 r53 v33 2 v37 v31 r54 v43 v44))))))
def I_asked_ask (k : Nat) (a0 : T_asked) (a1 : Int) : Option T_Reply := (at? a0.parts 3).bind fun b1 => (I_ReadRest k b1).bind fun r2 => (I_asked_ticket k a0).bind fun r3 => (I_isService k a1).bind fun r7 => cond (!r7) (some (⟨1, ([] : List UInt8), (⟨0, 0, 0, 0, 0, 0, 0, 0, (⟨0, 0, 0⟩ : T_Rest)⟩ : T_Event)⟩ : T_Reply)) (cond (!r2.2) (some (⟨1, ([] : List UInt8), (⟨0, 0, 0, 0, 0, 0, 0, 0, (⟨0, 0, 0⟩ : T_Rest)⟩ : T_Event)⟩ : T_Reply)) (cond (!r3.2) (some (⟨1, ([] : List UInt8), (⟨0, 0, 0, 0, 0, 0, 0, 0, (⟨0, 0, 0⟩ : T_Rest)⟩ : T_Event)⟩ : T_Reply)) ((at? a0.parts 2).bind fun b8 => (I_ReadAuth k b8 r3.1.Key).bind fun r9 => cond (!r9.2) (I_asked_ask.j2 k a1 true a0 r2.1.Servers r2.1.Ops r2.1.End r3.1.Client r3.1.Service r3.1.Key r3.1.Rest.Servers r3.1.Rest.Ops r3.1.Rest.End r3.1.Path r3.1.Via r9.1.Client r9.1.Time r9.1.Seq) (I_asked_ask.j2 k a1 (r9.1.Client != r3.1.Client) a0 r2.1.Servers r2.1.Ops r2.1.End r3.1.Client r3.1.Service r3.1.Key r3.1.Rest.Servers r3.1.Rest.Ops r3.1.Rest.End r3.1.Path r3.1.Via r9.1.Client r9.1.Time r9.1.Seq))))
theorem ent94 : MG.Enters Tryz.prog 94 := ⟨Tryz.f94, func94, rfl, by decide⟩
theorem g94 (k : Nat) (g0 g1 g2 g3 g4 : Bool) (a0 : T_asked) (a1 : Int) (r : T_Reply) (H : I_asked_ask k a0 a1 = some r) : Gives Tryz.prog 94 [V.agg (bT_asked g0 g1 g2 g3 g4 a0), V.one (cI a1)] [] [V.agg (bT_Reply r)] [] := by
 refine Gives.intro func94 rfl rfl rfl rfl ?_; refine fx fun w0 T S0 ob oh hm => ?_
 have hF := fxe w0 T S0 159 ob oh
 unfold I_asked_ask at H; obtain ⟨K, hK⟩ := leK k; refine sr ?_; refine bo 11 ?_; refine alc 12 info64 (L.nil ?_); refine sr ?_; refine fa underlying130 info70 ?_; refine lp shape70 ?_; obtain ⟨b1, hb1, H⟩ := bindS H; refine ix underlying70 info9 hb1 ?_; refine le shape9 ?_; obtain ⟨r2, hr2, H⟩ := bindS H; refine c0 13 ent156 (g156 k  b1 r2 hr2) ?_; refine mv ?_; refine ex ?_; refine ex ?_; refine alc 17 info37 ?_; refine sp shape37 ?_; refine ag (L.nil ?_); refine sr ?_; refine lp shape130 ?_; obtain ⟨r3, hr3, H⟩ := bindS H; refine c0 18 ent157 (g157 k g0 g1 g2 g3 g4 a0 r3 hr3) ?_; refine mv ?_; refine ex ?_; refine ex ?_; refine alc 27 info76 ?_; refine sp shape76 ?_; refine ag (L.nil ?_); refine WpC.seq (sr ?_); refine mv ?_; obtain ⟨r7, hr7, H⟩ := bindS H; refine c0 28 ent52 (g52 k  a1 r7 hr7) ?_; refine nt ?_; refine mv ?_; refine sH H (fun hc H => ?_) (fun hc H => ?_)
 ·(repeat refine of ?_); refine pk ?_; refine mv ?_; (repeat refine of ?_); refine pk (L.nil ?_); refine cT ?_; refine sr ?_; refine bf built64 ?_; refine sp shape64 (L.nil ?_); cases H; exact WpC.ret rt
 ·refine mv ?_; refine nt ?_; refine pk ?_; refine mv ?_; refine sH H (fun hc H => ?_) (fun hc H => ?_)
  ·(repeat refine of ?_); refine pk (L.nil ?_); refine cT ?_; refine sr ?_; refine bf built64 ?_; refine sp shape64 (L.nil ?_); cases H; exact WpC.ret rt
  ·refine mv ?_; refine nt ?_; refine pk (L.nil ?_); refine cd H (fun hc H => ?_) (fun hc H => ?_)
   ·refine sr ?_; refine bf built64 ?_; refine sp shape64 (L.nil ?_); cases H; exact WpC.ret rt
   ·refine WpC.skip (WpC.seq ?_); obtain ⟨b8, hb8, H⟩ := bindS H; obtain ⟨r9, hr9, H⟩ := bindS H
    refine A.lin (fun β => mkStL [(1, iI a1), (2, iP 11 0), (4, iP 12 0), (5, iP 17 0), (7, iP 27 0), (9, lP (β 10) 33 0), (10, al (β 12) (one (cL r9.2))), (42, al (β 7) (Slot.tup [V.agg (bT_Auth r9.1), V.one (cL r9.2)])), (43, lP (β 0) 11 9), (44, al (β 1) (one (Cell.sl g4 (List.map eS a0.parts)))), (45, al (β 2) (one (Cell.pe g4 (eS b8) 0))), (46, al (β 3) (one (cS b8))), (47, lP (β 4) 27 2), (48, al (β 5) (one (cI r3.1.Key))), (49, al (β 6) (Slot.tup [V.agg (bT_Auth r9.1), V.one (cL r9.2)])), (50, al (β 8) (agg (bT_Auth r9.1))), (51, al (β 9) (one (cL r9.2)))] [(24, ai (⟨1, List.map eI r3.1.Path⟩)), (25, ai (⟨1, List.map eI r3.1.Via⟩))] [(11, ai ((bT_asked g0 g1 g2 g3 g4 a0))), (12, ai (zc0)), (17, ai ((bT_Rest r2.1))), (27, ai ([cI r3.1.Client, cI r3.1.Service, cI r3.1.Key, cI r3.1.Rest.Servers, cI r3.1.Rest.Ops, cI r3.1.Rest.End, Cell.own 24, Cell.own 25])), (33, [(β 11, some ((bT_Auth r9.1))), (β 10, some ([cI 0, cI 0, cI 0]))])] 34) [([], [1, 2, 3, 6, 7, 8, 9, 11, 12]), ([0], [2, 3, 6, 7, 8, 9, 11, 12]), ([0, 1], [3, 6, 7, 8, 9, 11, 12]), ([0, 1, 2], [6, 7, 8, 9, 11, 12]), ([], [5, 6, 7, 8, 9, 11, 12]), ([4], [6, 7, 8, 9, 11, 12]), ([0, 1, 2, 3, 4, 5], [7, 8, 9, 11, 12]), ([0, 1, 2, 3, 4, 5, 6], [8, 9, 11, 12]), ([0, 1, 2, 3, 4, 5, 6, 7], [11, 12]), ([0, 1, 2, 3, 4, 5, 6, 7], [12]), ([], [11, 12]), ([0, 1, 2, 3, 4, 5, 6, 7, 8, 10], [12]), ([0, 1, 2, 3, 4, 5, 6, 7, 8, 9, 10, 11], [])] 13 mixed rfl (by kernel_rfl) ?_ ?_ ?_
    ·exact Le.lin [] hm rfl (sa (sa4 (kn4 (kn8 kz)))) (ra (ra kz)) (ba (ba (ba (ba (kn kz)))))
    ·repeat' (first | exact trivial | refine ⟨⟨_, rfl, fun β => ?_⟩, ?_⟩ | fail)
     ·refine fa underlying130 info70 ?_; exact lx [] hm
     ·refine lp shape70 ?_; exact lx [] hm
     ·refine ix underlying70 info9 hb8 ?_; exact lx [] hm
     ·refine le shape9 ?_; exact lx [] hm
     ·refine fa underlying76 info3 ?_; exact lx [] hm
     ·refine lp shape3 ?_; exact lx [] hm
     ·refine c0 34 ent120 (g120 k  b8 r3.1.Key r9 hr9) ?_; exact lx [(29, 34), (30, 35), (31, 36), (32, 37)] hm
     ·refine mv ?_; exact lx [] hm
     ·refine ex ?_; exact lx [] hm
     ·refine ex ?_; exact lx [] hm
     ·refine alc 34 info35 ?_; exact lx [(33, 34)] hm
     ·refine sp shape35 ?_; exact lx [] hm
     ·refine ag ?_; exact lx [] hm
    refine ⟨_, (lm [(0, 11), (1, 12), (2, 17), (3, 27), (4, 33), (5, 24), (6, 25)] hm : Le _ _ (mkSt [(1, oI a1), (2, oP 0 0), (4, oP 1 0), (5, oP 2 0), (7, oP 3 0), (9, oP 4 0), (10, oL r9.2)] [(5, ⟨1, List.map eI r3.1.Path⟩), (6, ⟨1, List.map eI r3.1.Via⟩)] [(0, (bT_asked g0 g1 g2 g3 g4 a0)), (1, zc0), (2, (bT_Rest r2.1)), (3, [cI r3.1.Client, cI r3.1.Service, cI r3.1.Key, cI r3.1.Rest.Servers, cI r3.1.Rest.Ops, cI r3.1.Rest.End, Cell.own 5, Cell.own 6]), (4, (bT_Auth r9.1))] 7)), ?_⟩; refine WpC.seq (WpC.block ?_)
    refine WpC.join (fun σ => ∃ (kj2 : Nat) (v31 : Int) (v32 : Bool) (v33 : T_asked) (v34 v35 v36 v37 v38 v39 v40 v41 v42 : Int) (v43 v44 : List Int) (v45 v46 v47 : Int), kj2 ≤ K ∧ I_asked_ask.j2 kj2 v31 v32 v33 v34 v35 v36 v37 v38 v39 v40 v41 v42 v43 v44 v45 v46 v47 = some r ∧ σ = mkSt [(1, oI v31), (2, oP 0 0), (4, oP 1 0), (5, oP 2 0), (7, oP 3 0), (9, oP 4 0), (52, oL v32)] [(5, ⟨1, List.map eI v43⟩), (6, ⟨1, List.map eI v44⟩)] [(0, (bT_asked g0 g1 g2 g3 g4 v33)), (1, zc0), (2, [cI v34, cI v35, cI v36]), (3, [cI v37, cI v38, cI v39, cI v40, cI v41, cI v42, Cell.own 5, Cell.own 6]), (4, [cI v45, cI v46, cI v47])] 7) ?_ ?_
    ·rintro _ ⟨kj2, v31, v32, v33, v34, v35, v36, v37, v38, v39, v40, v41, v42, v43, v44, v45, v46, v47, hkj2, H, rfl⟩
     unfold I_asked_ask.j2 at H; refine cd H (fun hc H => ?_) (fun hc H => ?_)
     ·refine sr ?_; refine bf built64 ?_; refine sp shape64 (L.nil ?_); cases H; exact WpC.ret rt
     ·refine WpC.seq ?_; obtain ⟨r48, hr48, H⟩ := bindS H; refine A.lin (fun β => mkStL [(1, iI v31), (2, iP 0 0), (4, iP 1 0), (5, iP 2 0), (7, iP 3 0), (9, iP 4 0), (63, al (β 9) (one (cL (decide (r48 > v33.c.Skew))))), (64, lP (β 0) 4 1), (65, lI (β 1) v46), (66, lP (β 2) 0 6), (67, al (β 3) (one (cI v33.now))), (68, lI (β 4) r48), (69, lP (β 5) 0 0), (70, lP (β 6) 0 4), (71, al (β 7) (one (cI v33.c.Skew))), (72, al (β 8) (one (cL (decide (r48 > v33.c.Skew)))))] [(5, ai (⟨1, List.map eI v43⟩)), (6, ai (⟨1, List.map eI v44⟩))] [(0, ai ((bT_asked g0 g1 g2 g3 g4 v33))), (1, ai (zc0)), (2, ai ([cI v34, cI v35, cI v36])), (3, ai ([cI v37, cI v38, cI v39, cI v40, cI v41, cI v42, Cell.own 5, Cell.own 6])), (4, ai ([cI v45, cI v46, cI v47]))] 8) [([], [1, 4, 8, 9]), ([0], [4, 8, 9]), ([], [3, 4, 8, 9]), ([2], [4, 8, 9]), ([0, 1, 2, 3], [8, 9]), ([], [6, 7, 8, 9]), ([5], [7, 8, 9]), ([5, 6], [8, 9]), ([0, 1, 2, 3, 4, 5, 6, 7], [9]), ([0, 1, 2, 3, 4, 5, 6, 7, 8], [])] 10 mixed rfl (by kernel_rfl) ?_ ?_ ?_
      ·exact Le.lin [] hm rfl (sa2 (sa4 (kn2 (kn8 kz)))) (ra (ra kz)) (ba (ba (ba (ba (ba kz)))))
      ·repeat' (first | exact trivial | refine ⟨⟨_, rfl, fun β => ?_⟩, ?_⟩ | fail)
       ·refine fa underlying35 info3 ?_; exact lx [] hm
       ·refine lp shape3 ?_; exact lx [] hm
       ·refine fa underlying130 info3 ?_; exact lx [] hm
       ·refine lp shape3 ?_; exact lx [] hm
       ·refine c0 8 ent123 (g123 kj2  v46 v33.now r48 hr48) ?_; exact lx [(7, 8)] hm
       ·refine fa underlying130 info44 ?_; exact lx [] hm
       ·refine fa underlying44 info3 ?_; exact lx [] hm
       ·refine lp shape3 ?_; exact lx [] hm
       ·refine bi ?_; exact lx [] hm
       ·refine ag ?_; exact lx [] hm
      refine ⟨_, (lm [(0, 0), (1, 1), (2, 2), (3, 3), (4, 5), (5, 6)] hm : Le _ _ (mkSt [(1, oI v31), (2, oP 0 0), (4, oP 1 0), (5, oP 2 0), (7, oP 3 0), (63, one (cL (decide (r48 > v33.c.Skew))))] [(4, ⟨1, List.map eI v43⟩), (5, ⟨1, List.map eI v44⟩)] [(0, (bT_asked g0 g1 g2 g3 g4 v33)), (1, zc0), (2, [cI v34, cI v35, cI v36]), (3, [cI v37, cI v38, cI v39, cI v40, cI v41, cI v42, Cell.own 4, Cell.own 5])] 6)), ?_⟩; refine cd H (fun hc H => ?_) (fun hc H => ?_)
      ·refine sr ?_; refine bf built64 ?_; refine sp shape64 (L.nil ?_); cases H; exact WpC.ret rt
      ·refine sr ?_; refine fa underlying130 info3 ?_; refine lp shape3 ?_; refine fa underlying76 info37 ?_; refine fa underlying37 info3 ?_; refine lp shape3 ?_; refine bi ?_; refine ag (L.nil ?_); refine cd H (fun hc H => ?_) (fun hc H => ?_)
       ·refine sr ?_; refine bf built64 ?_; refine sp shape64 (L.nil ?_); cases H; exact WpC.ret rt
       ·refine sr ?_; refine fa underlying76 info22 ?_; refine lp shape22 ?_; refine L.lenR (xs := v43) (e := eI) underlying22 hF rfl rfl rfl rfl ?_; refine bi ?_; refine ag (L.nil ?_); refine cd H (fun hc H => ?_) (fun hc H => ?_)
        ·refine sr ?_; refine bf built64 ?_; refine sp shape64 (L.nil ?_); cases H; exact WpC.ret rt
        ·refine WpC.seq ?_; obtain ⟨b49, hb49, H⟩ := bindS H; obtain ⟨r50, hr50, H⟩ := bindS H; refine A.lin (fun β => mkStL [(1, iI v31), (2, iP 0 0), (4, iP 1 0), (5, iP 2 0), (7, iP 3 0), (88, al (β 6) (one (cL (b49 != r50)))), (89, lP (β 0) 0 9), (90, al (β 1) (one (Cell.sl g4 (List.map eS v33.parts)))), (91, al (β 2) (one (Cell.pe g4 (eS b49) 0))), (92, al (β 3) (one (cS b49))), (93, al (β 4) (one (cS r50))), (94, al (β 5) (one (cL (b49 != r50))))] [(4, ai (⟨1, List.map eI v43⟩)), (5, ai (⟨1, List.map eI v44⟩))] [(0, ai ((bT_asked g0 g1 g2 g3 g4 v33))), (1, ai (zc0)), (2, ai ([cI v34, cI v35, cI v36])), (3, ai ([cI v37, cI v38, cI v39, cI v40, cI v41, cI v42, Cell.own 4, Cell.own 5]))] 7) [([], [1, 2, 3, 5, 6]), ([0], [2, 3, 5, 6]), ([0, 1], [3, 5, 6]), ([0, 1, 2], [5, 6]), ([], [5, 6]), ([0, 1, 2, 3, 4], [6]), ([0, 1, 2, 3, 4, 5], [])] 7 mixed rfl (by kernel_rfl) ?_ ?_ ?_
         ·exact Le.lin [] hm rfl (sa (sa4 (kn (kn2 (kn4 kz))))) (ra (ra kz)) (ba (ba (ba (ba kz))))
         ·repeat' (first | exact trivial | refine ⟨⟨_, rfl, fun β => ?_⟩, ?_⟩ | fail)
          ·refine fa underlying130 info70 ?_; exact lx [] hm
          ·refine lp shape70 ?_; exact lx [] hm
          ·refine ix underlying70 info9 hb49 ?_; exact lx [] hm
          ·refine le shape9 ?_; exact lx [] hm
          ·refine c0 7 ent158 (g158 kj2  ([] : List UInt8) r50 hr50) ?_; exact lx [(6, 7)] hm
          ·refine L.binS hF rfl rfl rfl rfl rfl ?_; exact lx [] hm
          ·refine ag ?_; exact lx [] hm
         refine ⟨_, (lm [(0, 0), (1, 1), (2, 2), (3, 3), (4, 4), (5, 5)] hm : Le _ _ (mkSt [(1, oI v31), (2, oP 0 0), (4, oP 1 0), (5, oP 2 0), (7, oP 3 0), (88, oL (b49 != r50))] [(4, ⟨1, List.map eI v43⟩), (5, ⟨1, List.map eI v44⟩)] [(0, (bT_asked g0 g1 g2 g3 g4 v33)), (1, zc0), (2, [cI v34, cI v35, cI v36]), (3, [cI v37, cI v38, cI v39, cI v40, cI v41, cI v42, Cell.own 4, Cell.own 5])] 6)), ?_⟩; refine cd H (fun hc H => ?_) (fun hc H => ?_)
         ·refine sr ?_; refine lp shape130 ?_; refine lp shape76 ?_; refine mv ?_; refine lp shape37 ?_; obtain ⟨r51, hr51, H⟩ := bindS H; refine ca [false, false, false, false] [4, 5] [] 6 ent159 (g159 kj2 g0 g1 g2 g3 g4 false false v33 (⟨v37, v38, v39, (⟨v40, v41, v42⟩ : T_Rest), v43, v44⟩ : T_Ticket) v31 (⟨v34, v35, v36⟩ : T_Rest) r51 hr51) ?_; refine sp shape64 (L.nil ?_); cases H; exact WpC.ret rt
         ·refine WpC.skip (sr ?_); refine fa underlying76 info3 ?_; refine lp shape3 ?_; refine fa underlying76 info3 ?_; refine lp shape3 ?_; refine fa underlying76 info3 ?_; refine lp shape3 ?_; refine bf built62 ?_; refine alc 6 info62 ?_; refine sp shape62 (L.nil ?_); refine sr ?_; refine fa underlying76 info3 ?_; refine lp shape3 ?_; refine ag (L.nil ?_); refine sr ?_; refine fa underlying130 info44 ?_; refine fa underlying44 info22 ?_; refine lp shape22 ?_; refine mv ?_; obtain ⟨b52, hb52, H⟩ := bindS H; refine ix underlying22 info3 hb52 ?_; refine le shape3 ?_; refine ag (L.nil ?_); refine sr ?_; refine mv ?_; refine bi ?_; obtain ⟨r53, hr53, H⟩ := bindS H; refine c0 7 ent119 (g119 kj2  (IntKind.i64.wrap (3 + v31)) r53 hr53) ?_; refine ag (L.nil ?_); refine WpC.seq ?_; obtain ⟨r54, hr54, H⟩ := bindS H
          refine A.lin (fun β => mkStL [(1, iI v31), (2, iP 0 0), (4, iP 1 0), (5, iP 2 0), (7, iP 3 0), (11, iP 6 0), (12, iI v39), (13, iI b52), (14, iI r53), (15, lP (β 14) 11 0), (118, lP (β 0) 3 0), (119, lI (β 1) v37), (120, lI (β 2) v31), (121, lP (β 3) 0 7), (122, al (β 4) (one (cI v33.fresh))), (123, lP (β 5) 3 3), (124, al (β 6) (agg [cI v40, cI v41, cI v42])), (125, al (β 7) (agg [cI v34, cI v35, cI v36])), (126, al (β 8) (agg (bT_Rest r54))), (127, lP (β 9) 3 6), (128, al (β 10) (one (Cell.own 4))), (129, lP (β 11) 3 7), (130, al (β 12) (one (Cell.own 5))), (131, al (β 13) (agg [cI v37, cI v31, cI v33.fresh, cI r54.Servers, cI r54.Ops, cI r54.End, Cell.own 4, Cell.own 5]))] [(4, ai (⟨1, List.map eI v43⟩)), (5, ai (⟨1, List.map eI v44⟩))] [(0, ai ((bT_asked g0 g1 g2 g3 g4 v33))), (1, ai (zc0)), (2, ai ([cI v34, cI v35, cI v36])), (3, ai ([cI v37, cI v38, cI v39, cI v40, cI v41, cI v42, Cell.own 4, Cell.own 5])), (6, ai ([cI 2, cI 0, cI v37, cI v37, cI 0, cI 0, cI v39, cI 0, cI 0, cI 0, cI 0])), (11, [(β 15, some ([cI v37, cI v31, cI v33.fresh, cI r54.Servers, cI r54.Ops, cI r54.End, Cell.own 4, Cell.own 5])), (β 14, some (zc1))])] 12) [([], [1, 13, 15]), ([0], [13, 15]), ([], [13, 15]), ([], [4, 13, 15]), ([3], [13, 15]), ([], [6, 8, 13, 15]), ([5], [8, 13, 15]), ([], [8, 13, 15]), ([5, 6, 7], [13, 15]), ([], [10, 13, 15]), ([9], [13, 15]), ([], [12, 13, 15]), ([11], [13, 15]), ([0, 1, 2, 3, 4, 5, 6, 7, 8, 9, 10, 11, 12], [15]), ([], [15]), ([0, 1, 2, 3, 4, 5, 6, 7, 8, 9, 10, 11, 12, 13, 14], [])] 16 mixed rfl (by kernel_rfl) ?_ ?_ ?_
          ·exact Le.lin [] hm rfl (sa (sa8 (kn (kn2 (kn4 (kn8 kz)))))) (ra (ra kz)) (ba (ba (ba (ba (ba (kn kz))))))
          ·repeat' (first | exact trivial | refine ⟨⟨_, rfl, fun β => ?_⟩, ?_⟩ | fail)
           ·refine fa underlying76 info3 ?_; exact lx [] hm
           ·refine lp shape3 ?_; exact lx [] hm
           ·refine mv ?_; exact lx [] hm
           ·refine fa underlying130 info3 ?_; exact lx [] hm
           ·refine lp shape3 ?_; exact lx [] hm
           ·refine fa underlying76 info37 ?_; exact lx [] hm
           ·refine lp shape37 ?_; exact lx [] hm
           ·refine lp shape37 ?_; exact lx [] hm
           ·refine c0 12 ent160 (g160 kj2  (⟨v40, v41, v42⟩ : T_Rest) (⟨v34, v35, v36⟩ : T_Rest) r54 hr54) ?_; exact lx [(8, 12), (9, 13), (10, 14)] hm
           ·refine fa underlying76 info22 ?_; exact lx [] hm
           ·refine lp shape22 ?_; exact lx [] hm
           ·refine fa underlying76 info22 ?_; exact lx [] hm
           ·refine lp shape22 ?_; exact lx [] hm
           ·refine bf built76 ?_; exact lx [] hm
           ·refine alc 12 info76 ?_; exact lx [(11, 12)] hm
           ·refine sp shape76 ?_; exact lx [] hm
          refine ⟨_, (lm [(0, 0), (1, 1), (2, 6), (3, 11), (4, 4), (5, 5)] hm : Le _ _ (mkSt [(2, oP 0 0), (4, oP 1 0), (11, oP 2 0), (12, oI v39), (13, oI b52), (14, oI r53), (15, oP 3 0)] [(4, ⟨1, List.map eI v43⟩), (5, ⟨1, List.map eI v44⟩)] [(0, (bT_asked g0 g1 g2 g3 g4 v33)), (1, zc0), (2, [cI 2, cI 0, cI v37, cI v37, cI 0, cI 0, cI v39, cI 0, cI 0, cI 0, cI 0]), (3, [cI v37, cI v31, cI v33.fresh, cI r54.Servers, cI r54.Ops, cI r54.End, Cell.own 4, Cell.own 5])] 6)), ?_⟩
          refine WpC.join (fun σ => ∃ (kj3 : Nat) (v57 v58 : Int) (v59 : T_asked) (v60 v61 v62 : Int) (v63 : T_Rest) (v64 v65 : List Int), kj3 ≤ K ∧ I_asked_ask.j3 kj3 v57 v58 v59 v60 v61 v62 v63 v64 v65 = some r ∧ σ = mkSt [(2, oP 0 0), (4, oP 1 0), (11, oP 2 0), (12, oI v57), (14, oI v58), (15, oP 3 0)] [(4, ⟨1, List.map eI v64⟩), (5, ⟨1, List.map eI v65⟩)] [(0, (bT_asked g0 g1 g2 g3 g4 v59)), (1, zc0), (2, [cI v60, cI 0, cI v61, cI v61, cI 0, cI 0, cI v57, cI 0, cI 0, cI 0, cI 0]), (3, [cI v61, cI v62, cI v59.fresh, cI v63.Servers, cI v63.Ops, cI v63.End, Cell.own 4, Cell.own 5])] 6) ?_ ?_
          ·rintro _ ⟨kj3, v57, v58, v59, v60, v61, v62, v63, v64, v65, hkj3, H, rfl⟩
           unfold I_asked_ask.j3 at H; refine sr ?_; refine lp shape130 ?_; refine lp shape62 ?_; refine lp shape76 ?_; refine mv ?_; refine mv ?_; obtain ⟨r66, hr66, H⟩ := bindS H; refine ca [false, false, false, false, false] [4, 5] [] 6 ent154 (g154 kj3 g0 g1 g2 g3 g4 false false v59 (⟨v60, 0, v61, v61, 0, 0, v57, 0, (⟨0, 0, 0⟩ : T_Rest)⟩ : T_Event) (⟨v61, v62, v59.fresh, v63, v64, v65⟩ : T_Ticket) v58 v57 r66 hr66) ?_; refine sp shape64 (L.nil ?_); cases H; exact WpC.ret rt
          ·refine sr ?_; refine mv ?_; refine fa underlying130 info3 ?_; refine lp shape3 ?_; refine bi (L.nil ?_); refine cd H (fun hc H => ?_) (fun hc H => ?_)
           ·refine sr ?_; refine fa underlying130 info44 ?_; refine lp shape44 ?_; refine fa underlying130 info3 ?_; refine lp shape3 ?_; refine mv ?_; obtain ⟨r67, hr67, H⟩ := bindS H; refine c0 6 ent161 (g161 kj2 g0 g1 g2 g3 v33.c v33.realm b52 r67 hr67) ?_; refine ag (L.nil ?_); refine WpC.seq (sr ?_); refine mv ?_; refine bi (L.nil ?_); refine cd H (fun hc H => ?_) (fun hc H => ?_)
            ·refine sr ?_; refine bf built64 ?_; refine sp shape64 (L.nil ?_); cases H; exact WpC.ret rt
            ·refine WpC.skip (sr ?_); refine fa underlying62 info3 ?_; refine sp shape3 (L.nil ?_); refine sr ?_; refine mv ?_; refine bi ?_; refine fa underlying76 info3 ?_; refine sp shape3 (L.nil ?_); refine WpC.regionL ?_; refine fa underlying130 info3 ?_; refine lp shape3 ?_; refine mv ?_; obtain ⟨r68, hr68, H⟩ := bindS H; refine c0 7 ent162 (g162 kj2  v33.realm r67 r68 hr68) ?_; refine ag (L.nil ?_); exact ⟨_, ⟨kj2, v39, r68, v33, 3, v37, (IntKind.i64.wrap (10 + r67)), r54, v43, v44, by omega, H, rfl⟩, lm [(0, 0), (1, 1), (2, 2), (3, 3), (4, 4), (5, 5)] hm⟩
           ·refine WpC.skip ?_; exact ⟨_, ⟨kj2, v39, r53, v33, 2, v37, v31, r54, v43, v44, by omega, H, rfl⟩, lm [(0, 0), (1, 1), (2, 2), (3, 3), (4, 4), (5, 5)] hm⟩
    ·refine WpC.regionL ?_; refine mv ?_; refine nt ?_; refine mv ?_; refine sH H (fun hc H => ?_) (fun hc H => ?_)
     ·(repeat refine of ?_); refine pk ?_; refine ag (L.nil ?_); exact ⟨_, ⟨k, a1, true, a0, r2.1.Servers, r2.1.Ops, r2.1.End, r3.1.Client, r3.1.Service, r3.1.Key, r3.1.Rest.Servers, r3.1.Rest.Ops, r3.1.Rest.End, r3.1.Path, r3.1.Via, r9.1.Client, r9.1.Time, r9.1.Seq, by omega, H, rfl⟩, lm [(0, 0), (1, 1), (2, 2), (3, 3), (4, 4), (5, 5), (6, 6)] hm⟩
     ·refine fa underlying35 info3 ?_; refine lp shape3 ?_; refine fa underlying76 info3 ?_; refine lp shape3 ?_; refine bi ?_; refine pk ?_; refine ag (L.nil ?_); exact ⟨_, ⟨k, a1, (r9.1.Client != r3.1.Client), a0, r2.1.Servers, r2.1.Ops, r2.1.End, r3.1.Client, r3.1.Service, r3.1.Key, r3.1.Rest.Servers, r3.1.Rest.Ops, r3.1.Rest.End, r3.1.Path, r3.1.Via, r9.1.Client, r9.1.Time, r9.1.Seq, by omega, H, rfl⟩, lm [(0, 0), (1, 1), (2, 2), (3, 3), (4, 4), (5, 5), (6, 6)] hm⟩
/-! ### I_Centre -/
def I_Centre.j4 (k : Nat) (v65 : List Int) (v66 : Bool) (v67 : T_Config) (v68 v69 v70 v71 : Int) (v72 : List (List UInt8)) : Option T_Reply := cond v66 ((at? v65 1).bind fun b73 => (I_asked_ask k (⟨v67, v68, v69, v70, v71, v72⟩ : T_asked) b73).bind fun r74 => some r74) (some (⟨1, ([] : List UInt8), (⟨0, 0, 0, 0, 0, 0, 0, 0, (⟨0, 0, 0⟩ : T_Rest)⟩ : T_Event)⟩ : T_Reply))
def I_Centre.j3 (k : Nat) (v54 : List (List UInt8)) (v55 : List Int) (v56 : Bool) (v57 : T_Config) (v58 v59 v60 v61 : Int) : Option T_Reply := cond v56 ((at? v55 1).bind fun b62 => (I_asked_login k (⟨v57, v58, v59, v60, v61, v54⟩ : T_asked) b62).bind fun r63 => some r63) ((at? v55 0).bind fun b75 => cond (b75 == 2) (I_Centre.j4 k v55 ((v54.length : Int) == 5) v57 v58 v59 v60 v61 v54) (I_Centre.j4 k v55 false v57 v58 v59 v60 v61 v54))
def I_Centre (k : Nat) (a0 : T_Config) (a1 a2 a3 : Int) (a4 : List UInt8) : Option T_Reply := (I_Parts k a4).bind fun r1 => (I_ConfigOk k a0).bind fun r14 => cond (!r14) (some (⟨1, ([] : List UInt8), (⟨0, 0, 0, 0, 0, 0, 0, 0, (⟨0, 0, 0⟩ : T_Rest)⟩ : T_Event)⟩ : T_Reply)) ((I_isRealm k a1).bind fun r15 => cond (!r15) (some (⟨1, ([] : List UInt8), (⟨0, 0, 0, 0, 0, 0, 0, 0, (⟨0, 0, 0⟩ : T_Rest)⟩ : T_Event)⟩ : T_Reply)) ((I_isTime k a2).bind fun r16 => cond (!r16) (some (⟨1, ([] : List UInt8), (⟨0, 0, 0, 0, 0, 0, 0, 0, (⟨0, 0, 0⟩ : T_Rest)⟩ : T_Event)⟩ : T_Reply)) ((I_within k a3 101 1000000).bind fun r17 => cond (!r17) (some (⟨1, ([] : List UInt8), (⟨0, 0, 0, 0, 0, 0, 0, 0, (⟨0, 0, 0⟩ : T_Rest)⟩ : T_Event)⟩ : T_Reply)) (cond (!r1.2) (some (⟨1, ([] : List UInt8), (⟨0, 0, 0, 0, 0, 0, 0, 0, (⟨0, 0, 0⟩ : T_Rest)⟩ : T_Event)⟩ : T_Reply)) (cond ((r1.1.length : Int) == 0) (some (⟨1, ([] : List UInt8), (⟨0, 0, 0, 0, 0, 0, 0, 0, (⟨0, 0, 0⟩ : T_Rest)⟩ : T_Event)⟩ : T_Reply)) ((at? r1.1 0).bind fun b18 => (I_ReadNums k b18).bind fun r19 => cond (!r19.2) (some (⟨1, ([] : List UInt8), (⟨0, 0, 0, 0, 0, 0, 0, 0, (⟨0, 0, 0⟩ : T_Rest)⟩ : T_Event)⟩ : T_Reply)) (cond ((r19.1.length : Int) != 3) (some (⟨1, ([] : List UInt8), (⟨0, 0, 0, 0, 0, 0, 0, 0, (⟨0, 0, 0⟩ : T_Rest)⟩ : T_Event)⟩ : T_Reply)) ((at? r19.1 2).bind fun b26 => (I_isNonce k b26).bind fun r27 => cond (!r27) (some (⟨1, ([] : List UInt8), (⟨0, 0, 0, 0, 0, 0, 0, 0, (⟨0, 0, 0⟩ : T_Rest)⟩ : T_Event)⟩ : T_Reply)) ((at? r19.1 2).bind fun b28 => (at? r19.1 0).bind fun b76 => cond (b76 == 1) (I_Centre.j3 k r1.1 r19.1 ((r1.1.length : Int) == 2) a0 a1 a2 a3 b28) (I_Centre.j3 k r1.1 r19.1 false a0 a1 a2 a3 b28))))))))))
theorem ent27 : MG.Enters Tryz.prog 27 := ⟨Tryz.f27, func27, rfl, by decide⟩
theorem g27 (k : Nat) (g0 g1 g2 g3 : Bool) (a0 : T_Config) (a1 a2 a3 : Int) (a4 : List UInt8) (r : T_Reply) (H : I_Centre k a0 a1 a2 a3 a4 = some r) : Gives Tryz.prog 27 [V.agg (bT_Config g0 g1 g2 g3 a0), V.one (cI a1), V.one (cI a2), V.one (cI a3), V.one (cS a4)] [] [V.agg (bT_Reply r)] [] := by
 refine Gives.intro func27 rfl rfl rfl rfl ?_; refine fx fun w0 T S0 ob oh hm => ?_
 have hF := fxe w0 T S0 111 ob oh
 unfold I_Centre at H; obtain ⟨K, hK⟩ := leK k; refine sr ?_; refine bo 9 ?_; refine alc 10 info64 (L.nil ?_); refine sr ?_; refine mv ?_; obtain ⟨r1, hr1, H⟩ := bindS H; refine c0 11 ent88 (g88 k  a4 r1 hr1) ?_; refine mv ?_; refine ex ?_; refine ex ?_; refine ag ?_; refine ag (L.nil ?_); refine WpC.seq (sr ?_); refine lp shape44 ?_; obtain ⟨r14, hr14, H⟩ := bindS H; refine c0 13 ent51 (g51 k g0 g1 g2 g3 a0 r14 hr14) ?_; refine nt ?_; refine mv ?_; refine sH H (fun hc H => ?_) (fun hc H => ?_)
 ·(repeat refine of ?_); refine pk ?_; refine mv ?_; (repeat refine of ?_); refine pk ?_; refine mv ?_; (repeat refine of ?_); refine pk ?_; refine mv ?_; (repeat refine of ?_); refine pk ?_; refine mv ?_; (repeat refine of ?_); refine pk (L.nil ?_); refine cT ?_; refine sr ?_; refine bf built64 ?_; refine sp shape64 (L.nil ?_); cases H; exact WpC.ret rt
 ·refine mv ?_; obtain ⟨r15, hr15, H⟩ := bindS H; refine c0 14 ent89 (g89 k  a1 r15 hr15) ?_; refine nt ?_; refine pk ?_; refine mv ?_; refine sH H (fun hc H => ?_) (fun hc H => ?_)
  ·(repeat refine of ?_); refine pk ?_; refine mv ?_; (repeat refine of ?_); refine pk ?_; refine mv ?_; (repeat refine of ?_); refine pk ?_; refine mv ?_; (repeat refine of ?_); refine pk (L.nil ?_); refine cT ?_; refine sr ?_; refine bf built64 ?_; refine sp shape64 (L.nil ?_); cases H; exact WpC.ret rt
  ·refine mv ?_; obtain ⟨r16, hr16, H⟩ := bindS H; refine c0 15 ent53 (g53 k  a2 r16 hr16) ?_; refine nt ?_; refine pk ?_; refine mv ?_; refine sH H (fun hc H => ?_) (fun hc H => ?_)
   ·(repeat refine of ?_); refine pk ?_; refine mv ?_; (repeat refine of ?_); refine pk ?_; refine mv ?_; (repeat refine of ?_); refine pk (L.nil ?_); refine cT ?_; refine sr ?_; refine bf built64 ?_; refine sp shape64 (L.nil ?_); cases H; exact WpC.ret rt
   ·refine mv ?_; obtain ⟨r17, hr17, H⟩ := bindS H; refine c0 16 ent90 (g90 k  a3 101 1000000 r17 hr17) ?_; refine nt ?_; refine pk ?_; refine mv ?_; refine sH H (fun hc H => ?_) (fun hc H => ?_)
    ·(repeat refine of ?_); refine pk ?_; refine mv ?_; (repeat refine of ?_); refine pk (L.nil ?_); refine cT ?_; refine sr ?_; refine bf built64 ?_; refine sp shape64 (L.nil ?_); cases H; exact WpC.ret rt
    ·refine mv ?_; refine nt ?_; refine pk ?_; refine mv ?_; refine sH H (fun hc H => ?_) (fun hc H => ?_)
     ·(repeat refine of ?_); refine pk (L.nil ?_); refine cT ?_; refine sr ?_; refine bf built64 ?_; refine sp shape64 (L.nil ?_); cases H; exact WpC.ret rt
     ·refine mv ?_; refine L.lenR (xs := r1.1) (e := eS) underlying70 hF rfl rfl rfl rfl ?_; refine bi ?_; refine pk (L.nil ?_); refine cd H (fun hc H => ?_) (fun hc H => ?_)
      ·refine sr ?_; refine bf built64 ?_; refine sp shape64 (L.nil ?_); cases H; exact WpC.ret rt
      ·refine WpC.skip (sr ?_); refine mv ?_; obtain ⟨b18, hb18, H⟩ := bindS H; refine ix underlying70 info9 hb18 ?_; refine L.loadEp (xs := r1.1) (e := eS) shape9 hF rfl rfl rfl rfl (at?_get hb18).2 rfl rfl ?_; obtain ⟨r19, hr19, H⟩ := bindS H; refine c0 17 ent91 (g91 k  b18 r19 hr19) ?_; refine mv ?_; refine ex ?_; refine ex ?_; refine ag ?_; refine ag (L.nil ?_); refine WpC.seq (sr ?_); refine mv ?_; refine nt ?_; refine mv ?_; refine sH H (fun hc H => ?_) (fun hc H => ?_)
       ·(repeat refine of ?_); refine pk ?_; refine mv ?_; (repeat refine of ?_); refine pk (L.nil ?_); refine cT ?_; refine sr ?_; refine bf built64 ?_; refine sp shape64 (L.nil ?_); cases H; exact WpC.ret rt
       ·refine mv ?_; refine L.lenR (xs := r19.1) (e := eI) underlying22 hF rfl rfl rfl rfl ?_; refine bi ?_; refine pk ?_; refine mv ?_; refine sH H (fun hc H => ?_) (fun hc H => ?_)
        ·(repeat refine of ?_); refine pk (L.nil ?_); refine cT ?_; refine sr ?_; refine bf built64 ?_; refine sp shape64 (L.nil ?_); cases H; exact WpC.ret rt
        ·refine mv ?_; obtain ⟨b26, hb26, H⟩ := bindS H; refine ix underlying22 info3 hb26 ?_; refine L.loadEp (xs := r19.1) (e := eI) shape3 hF rfl rfl rfl rfl (at?_get hb26).2 rfl rfl ?_; obtain ⟨r27, hr27, H⟩ := bindS H; refine c0 19 ent92 (g92 k  b26 r27 hr27) ?_; refine nt ?_; refine pk (L.nil ?_); refine cd H (fun hc H => ?_) (fun hc H => ?_)
         ·refine sr ?_; refine bf built64 ?_; refine sp shape64 (L.nil ?_); cases H; exact WpC.ret rt
         ·refine WpC.skip (WpC.seq ?_); obtain ⟨b28, hb28, H⟩ := bindS H
          refine A.lin (fun β => mkStL [(1, iI a1), (2, iI a2), (3, iI a3), (5, iP 9 0), (10, iP 10 0), (11, ai (one (Cell.own 11))), (13, ai (one (Cell.own 17))), (15, lP (β 9) 20 0), (71, al (β 0) (agg (bT_Config g0 g1 g2 g3 a0))), (72, lI (β 1) a1), (73, lI (β 2) a2), (74, lI (β 3) a3), (75, al (β 4) (one (Cell.own 17))), (76, al (β 5) (one (Cell.ep 17 ((2 : Int).toNat) 0))), (77, lI (β 6) b28), (78, al (β 7) (one (Cell.own 11))), (79, al (β 8) (agg [Cell.sl g0 (List.map eI a0.UserRealm), Cell.sl g1 (List.map eI a0.ServiceRealm), Cell.sl g2 (List.map eT_Pair a0.Links), Cell.sl g3 (List.map eT_Pair a0.Proxy), cI a0.Skew, cI a1, cI a2, cI a3, cI b28, Cell.own 11]))] [(11, ai (⟨1, List.map eS r1.1⟩)), (17, ai (⟨1, List.map eI r19.1⟩))] [(9, ai ((bT_Config g0 g1 g2 g3 a0))), (10, ai (zc0)), (20, [(β 10, some ([Cell.sl g0 (List.map eI a0.UserRealm), Cell.sl g1 (List.map eI a0.ServiceRealm), Cell.sl g2 (List.map eT_Pair a0.Links), Cell.sl g3 (List.map eT_Pair a0.Proxy), cI a0.Skew, cI a1, cI a2, cI a3, cI b28, Cell.own 11])), (β 9, some ([Cell.nil, Cell.nil, Cell.nil, Cell.nil, cI 0, cI 0, cI 0, cI 0, cI 0, Cell.nil]))])] 21) [([], [8, 10]), ([], [8, 10]), ([], [8, 10]), ([], [8, 10]), ([], [5, 6, 8, 10]), ([4], [6, 8, 10]), ([4, 5], [8, 10]), ([], [8, 10]), ([0, 1, 2, 3, 4, 5, 6, 7], [10]), ([], [10]), ([0, 1, 2, 3, 4, 5, 6, 7, 8, 9], [])] 11 mixed rfl (by kernel_rfl) ?_ ?_ ?_
          ·exact Le.lin [] hm rfl (sa (sa2 (sa4 (kn2 (kn8 kz))))) (ra (ra kz)) (ba (ba (kn kz)))
          ·repeat' (first | exact trivial | refine ⟨⟨_, rfl, fun β => ?_⟩, ?_⟩ | fail)
           ·refine lp shape44 ?_; exact lx [] hm
           ·refine mv ?_; exact lx [] hm
           ·refine mv ?_; exact lx [] hm
           ·refine mv ?_; exact lx [] hm
           ·refine mv ?_; exact lx [] hm
           ·refine ix underlying22 info3 hb28 ?_; exact lx [] hm
           ·refine L.loadEp (xs := r19.1) (e := eI) shape3 hF rfl rfl rfl rfl (at?_get hb28).2 rfl rfl ?_; exact lx [] hm
           ·refine mv ?_; exact lx [] hm
           ·refine bf built130 ?_; exact lx [] hm
           ·refine alc 21 info130 ?_; exact lx [(20, 21)] hm
           ·refine sp shape130 ?_; exact lx [] hm
          refine ⟨_, (lm [(0, 10), (1, 11), (2, 17), (3, 20)] hm : Le _ _ (mkSt [(10, oP 0 0), (11, one (Cell.own 1)), (13, one (Cell.own 2)), (15, oP 3 0)] [(1, ⟨1, List.map eS r1.1⟩), (2, ⟨1, List.map eI r19.1⟩)] [(0, zc0), (3, [Cell.sl g0 (List.map eI a0.UserRealm), Cell.sl g1 (List.map eI a0.ServiceRealm), Cell.sl g2 (List.map eT_Pair a0.Links), Cell.sl g3 (List.map eT_Pair a0.Proxy), cI a0.Skew, cI a1, cI a2, cI a3, cI b28, Cell.own 1])] 4)), ?_⟩; refine WpC.seq (WpC.block ?_)
          refine WpC.join (fun σ => ∃ (kj3 : Nat) (v54 : List (List UInt8)) (v55 : List Int) (v56 : Bool) (v57 : T_Config) (v58 v59 v60 v61 : Int), kj3 ≤ K ∧ I_Centre.j3 kj3 v54 v55 v56 v57 v58 v59 v60 v61 = some r ∧ σ = mkSt [(10, oP 0 0), (11, one (Cell.own 1)), (13, one (Cell.own 2)), (15, oP 3 0), (80, oL v56)] [(1, ⟨1, List.map eS v54⟩), (2, ⟨1, List.map eI v55⟩)] [(0, zc0), (3, [Cell.sl g0 (List.map eI v57.UserRealm), Cell.sl g1 (List.map eI v57.ServiceRealm), Cell.sl g2 (List.map eT_Pair v57.Links), Cell.sl g3 (List.map eT_Pair v57.Proxy), cI v57.Skew, cI v58, cI v59, cI v60, cI v61, Cell.own 1])] 4) ?_ ?_
          ·rintro _ ⟨kj3, v54, v55, v56, v57, v58, v59, v60, v61, hkj3, H, rfl⟩
           unfold I_Centre.j3 at H; refine cd H (fun hc H => ?_) (fun hc H => ?_)
           ·refine WpC.seq ?_; obtain ⟨b62, hb62, H⟩ := bindS H; obtain ⟨r63, hr63, H⟩ := bindS H; refine A.begin mixed rfl rfl ?_; intro W hI hO
            have n15 : W 2 #[true, true, true, true, false, false] (mkSt [(10, oP 0 0), (90, agg [Cell.sl g0 (List.map eI v57.UserRealm), Cell.sl g1 (List.map eI v57.ServiceRealm), Cell.sl g2 (List.map eT_Pair v57.Links), Cell.sl g3 (List.map eT_Pair v57.Proxy), cI v57.Skew, cI v58, cI v59, cI v60, cI v61, Cell.own 1]), (93, oI b62)] [(1, ⟨1, List.map eS v54⟩)] [(0, zc0)] 2) := by
             refine hI _ _ _ ?_; refine A.all [4] (by kernel_rfl) rfl ⟨⟨_, rfl, ?_⟩, trivial⟩; refine ca [false, false] [1] [] 2 ent93 (g93 kj3 g0 g1 g2 g3 false (⟨v57, v58, v59, v60, v61, v54⟩ : T_asked) b62 r63 hr63) (L.nil ?_); refine A.all [5] (by kernel_rfl) rfl ⟨⟨_, rfl, ?_⟩, trivial⟩; refine sp shape64 (L.nil ?_); refine A.le (τ := mkSt [(10, oP 0 0)] [] [(0, (bT_Reply r63))] 1) (lm [(0, 0)] hm) ?_; refine A.done (by kernel_rfl) ?_; cases H; exact WpC.ret rt
            refine hI _ _ _ ?_; refine tM 1 ?_; refine Atk 2 rfl (Ca.indexAddr) (fun Q0 k0 => ix underlying22 info3 hb62 (L.nil k0)) ?_; refine A.all [0, 3] (by kernel_rfl) rfl ⟨⟨_, rfl, ?_⟩, ⟨_, rfl, ?_⟩, trivial⟩
            ·refine lp shape130 (L.nil ?_); refine A.all [3] (by kernel_rfl) rfl ⟨⟨_, rfl, ?_⟩, trivial⟩; refine L.loadEp (xs := v55) (e := eI) shape3 hF rfl rfl rfl rfl (at?_get hb62).2 rfl rfl ?_; refine L.nil ?_; exact A.on (hO _ _ _ n15) (lm [(0, 0), (1, 1)] hm)
            ·refine L.loadEp (xs := v55) (e := eI) shape3 hF rfl rfl rfl rfl (at?_get hb62).2 rfl rfl ?_; refine L.nil ?_; refine A.all [0] (by kernel_rfl) rfl ⟨⟨_, rfl, ?_⟩, trivial⟩; refine lp shape130 (L.nil ?_); exact A.on (hO _ _ _ n15) (lm [(0, 0), (1, 1)] hm)
           ·refine WpC.join (fun σ => ∃ (kj4 : Nat) (v65 : List Int) (v66 : Bool) (v67 : T_Config) (v68 v69 v70 v71 : Int) (v72 : List (List UInt8)), kj4 ≤ K ∧ I_Centre.j4 kj4 v65 v66 v67 v68 v69 v70 v71 v72 = some r ∧ σ = mkSt [(10, oP 0 0), (13, one (Cell.own 1)), (15, oP 2 0), (95, oL v66)] [(1, ⟨1, List.map eI v65⟩), (3, ⟨1, List.map eS v72⟩)] [(0, zc0), (2, [Cell.sl g0 (List.map eI v67.UserRealm), Cell.sl g1 (List.map eI v67.ServiceRealm), Cell.sl g2 (List.map eT_Pair v67.Links), Cell.sl g3 (List.map eT_Pair v67.Proxy), cI v67.Skew, cI v68, cI v69, cI v70, cI v71, Cell.own 3])] 4) ?_ ?_
            ·rintro _ ⟨kj4, v65, v66, v67, v68, v69, v70, v71, v72, hkj4, H, rfl⟩
             unfold I_Centre.j4 at H; refine cd H (fun hc H => ?_) (fun hc H => ?_)
             ·refine WpC.seq ?_; obtain ⟨b73, hb73, H⟩ := bindS H; obtain ⟨r74, hr74, H⟩ := bindS H; refine A.begin mixed rfl rfl ?_; intro W hI hO
              have n15 : W 2 #[true, true, true, true, false, false] (mkSt [(10, oP 0 0), (105, agg [Cell.sl g0 (List.map eI v67.UserRealm), Cell.sl g1 (List.map eI v67.ServiceRealm), Cell.sl g2 (List.map eT_Pair v67.Links), Cell.sl g3 (List.map eT_Pair v67.Proxy), cI v67.Skew, cI v68, cI v69, cI v70, cI v71, Cell.own 1]), (108, oI b73)] [(1, ⟨1, List.map eS v72⟩)] [(0, zc0)] 2) := by
               refine hI _ _ _ ?_; refine A.all [4] (by kernel_rfl) rfl ⟨⟨_, rfl, ?_⟩, trivial⟩; refine ca [false, false] [1] [] 2 ent94 (g94 kj4 g0 g1 g2 g3 false (⟨v67, v68, v69, v70, v71, v72⟩ : T_asked) b73 r74 hr74) (L.nil ?_); refine A.all [5] (by kernel_rfl) rfl ⟨⟨_, rfl, ?_⟩, trivial⟩; refine sp shape64 (L.nil ?_); refine A.le (τ := mkSt [(10, oP 0 0)] [] [(0, (bT_Reply r74))] 1) (lm [(0, 0)] hm) ?_; refine A.done (by kernel_rfl) ?_; cases H; exact WpC.ret rt
              refine hI _ _ _ ?_; refine tM 1 ?_; refine Atk 2 rfl (Ca.indexAddr) (fun Q0 k0 => ix underlying22 info3 hb73 (L.nil k0)) ?_; refine A.all [0, 3] (by kernel_rfl) rfl ⟨⟨_, rfl, ?_⟩, ⟨_, rfl, ?_⟩, trivial⟩
              ·refine lp shape130 (L.nil ?_); refine A.all [3] (by kernel_rfl) rfl ⟨⟨_, rfl, ?_⟩, trivial⟩; refine L.loadEp (xs := v65) (e := eI) shape3 hF rfl rfl rfl rfl (at?_get hb73).2 rfl rfl ?_; refine L.nil ?_; exact A.on (hO _ _ _ n15) (lm [(0, 0), (1, 3)] hm)
              ·refine L.loadEp (xs := v65) (e := eI) shape3 hF rfl rfl rfl rfl (at?_get hb73).2 rfl rfl ?_; refine L.nil ?_; refine A.all [0] (by kernel_rfl) rfl ⟨⟨_, rfl, ?_⟩, trivial⟩; refine lp shape130 (L.nil ?_); exact A.on (hO _ _ _ n15) (lm [(0, 0), (1, 3)] hm)
             ·refine WpC.skip (sr ?_); refine bf built64 ?_; refine sp shape64 (L.nil ?_); cases H; exact WpC.ret rt
            ·refine WpC.regionL ?_; refine mv ?_; obtain ⟨b75, hb75, H⟩ := bindS H; refine ix underlying22 info3 hb75 ?_; refine L.loadEp (xs := v55) (e := eI) shape3 hF rfl rfl rfl rfl (at?_get hb75).2 rfl rfl ?_; refine bi ?_; refine mv ?_; refine sH H (fun hc H => ?_) (fun hc H => ?_)
             ·refine mv ?_; refine L.lenR (xs := v54) (e := eS) underlying70 hF rfl rfl rfl rfl ?_; refine bi ?_; refine pk ?_; refine ag (L.nil ?_); exact ⟨_, ⟨kj3, v55, ((v54.length : Int) == 5), v57, v58, v59, v60, v61, v54, by omega, H, rfl⟩, lm [(0, 0), (1, 2), (2, 3), (3, 1)] hm⟩
             ·(repeat refine of ?_); refine pk ?_; refine ag (L.nil ?_); exact ⟨_, ⟨kj3, v55, false, v57, v58, v59, v60, v61, v54, by omega, H, rfl⟩, lm [(0, 0), (1, 2), (2, 3), (3, 1)] hm⟩
          ·refine WpC.regionL ?_; refine mv ?_; obtain ⟨b76, hb76, H⟩ := bindS H; refine ix underlying22 info3 hb76 ?_; refine L.loadEp (xs := r19.1) (e := eI) shape3 hF rfl rfl rfl rfl (at?_get hb76).2 rfl rfl ?_; refine bi ?_; refine mv ?_; refine sH H (fun hc H => ?_) (fun hc H => ?_)
           ·refine mv ?_; refine L.lenR (xs := r1.1) (e := eS) underlying70 hF rfl rfl rfl rfl ?_; refine bi ?_; refine pk ?_; refine ag (L.nil ?_); exact ⟨_, ⟨k, r1.1, r19.1, ((r1.1.length : Int) == 2), a0, a1, a2, a3, b28, by omega, H, rfl⟩, lm [(0, 0), (1, 1), (2, 2), (3, 3)] hm⟩
           ·(repeat refine of ?_); refine pk ?_; refine ag (L.nil ?_); exact ⟨_, ⟨k, r1.1, r19.1, false, a0, a1, a2, a3, b28, by omega, H, rfl⟩, lm [(0, 0), (1, 1), (2, 2), (3, 3)] hm⟩
/-! ### W_eqRest -/
def W_eqRest (k : Nat) (a0 a1 : T_Rest) : Option Bool := cond (a0.Servers != a1.Servers) (some false) (cond (a0.Ops != a1.Ops) (some false) (cond (a0.End != a1.End) (some false) (some true)))
theorem ent61 : MG.Enters Tryz.prog 61 := ⟨Tryz.f61, func61, rfl, by decide⟩
theorem g61 (k : Nat) (a0 a1 : T_Rest) (r : Bool) (H : W_eqRest k a0 a1 = some r) : Gives Tryz.prog 61 [V.agg (bT_Rest a0), V.agg (bT_Rest a1)] [] [V.one (cL r)] [] := by
 refine Gives.intro func61 rfl rfl rfl rfl ?_; refine fx fun w0 T S0 ob oh hm => ?_
 have hF := fxe w0 T S0 20 ob oh
 unfold W_eqRest at H; obtain ⟨K, hK⟩ := leK k; refine sr ?_; refine bo 6 ?_; refine bo 7 ?_; refine ag (L.nil ?_); refine WpC.seq (sr ?_); refine fa underlying37 info3 ?_; refine lp shape3 ?_; refine fa underlying37 info3 ?_; refine lp shape3 ?_; refine bi (L.nil ?_); refine cd H (fun hc H => ?_) (fun hc H => ?_)
 ·refine sr ?_; refine ag (L.nil ?_); cases H; exact WpC.ret rt
 ·refine WpC.skip (WpC.seq (sr ?_)); refine fa underlying37 info3 ?_; refine lp shape3 ?_; refine fa underlying37 info3 ?_; refine lp shape3 ?_; refine bi (L.nil ?_); refine cd H (fun hc H => ?_) (fun hc H => ?_)
  ·refine sr ?_; refine ag (L.nil ?_); cases H; exact WpC.ret rt
  ·refine WpC.skip (WpC.seq (sr ?_)); refine fa underlying37 info3 ?_; refine lp shape3 ?_; refine fa underlying37 info3 ?_; refine lp shape3 ?_; refine bi (L.nil ?_); refine cd H (fun hc H => ?_) (fun hc H => ?_)
   ·refine sr ?_; refine ag (L.nil ?_); cases H; exact WpC.ret rt
   ·refine WpC.skip (sr ?_); refine ag (L.nil ?_); cases H; exact WpC.ret rt
/-! ### W_eqEvent -/
def W_eqEvent (k : Nat) (a0 a1 : T_Event) : Option Bool := cond (a0.Kind != a1.Kind) (some false) (cond (a0.Realm != a1.Realm) (some false) (cond (a0.By != a1.By) (some false) (cond (a0.Client != a1.Client) (some false) (cond (a0.Service != a1.Service) (some false) (cond (a0.Key != a1.Key) (some false) (cond (a0.Parent != a1.Parent) (some false) (cond (a0.Evid != a1.Evid) (some false) ((W_eqRest k a0.Rest a1.Rest).bind fun r2 => cond (!r2) (some false) (some true)))))))))
theorem ent95 : MG.Enters Tryz.prog 95 := ⟨Tryz.f95, func95, rfl, by decide⟩
theorem g95 (k : Nat) (a0 a1 : T_Event) (r : Bool) (H : W_eqEvent k a0 a1 = some r) : Gives Tryz.prog 95 [V.agg (bT_Event a0), V.agg (bT_Event a1)] [] [V.one (cL r)] [] := by
 refine Gives.intro func95 rfl rfl rfl rfl ?_; refine fx fun w0 T S0 ob oh hm => ?_
 have hF := fxe w0 T S0 51 ob oh
 unfold W_eqEvent at H; obtain ⟨K, hK⟩ := leK k; refine sr ?_; refine bo 22 ?_; refine bo 23 ?_; refine ag (L.nil ?_); refine WpC.seq (sr ?_); refine fa underlying62 info3 ?_; refine lp shape3 ?_; refine fa underlying62 info3 ?_; refine lp shape3 ?_; refine bi (L.nil ?_); refine cd H (fun hc H => ?_) (fun hc H => ?_)
 ·refine sr ?_; refine ag (L.nil ?_); cases H; exact WpC.ret rt
 ·refine WpC.skip (WpC.seq (sr ?_)); refine fa underlying62 info3 ?_; refine lp shape3 ?_; refine fa underlying62 info3 ?_; refine lp shape3 ?_; refine bi (L.nil ?_); refine cd H (fun hc H => ?_) (fun hc H => ?_)
  ·refine sr ?_; refine ag (L.nil ?_); cases H; exact WpC.ret rt
  ·refine WpC.skip (WpC.seq (sr ?_)); refine fa underlying62 info3 ?_; refine lp shape3 ?_; refine fa underlying62 info3 ?_; refine lp shape3 ?_; refine bi (L.nil ?_); refine cd H (fun hc H => ?_) (fun hc H => ?_)
   ·refine sr ?_; refine ag (L.nil ?_); cases H; exact WpC.ret rt
   ·refine WpC.skip (WpC.seq (sr ?_)); refine fa underlying62 info3 ?_; refine lp shape3 ?_; refine fa underlying62 info3 ?_; refine lp shape3 ?_; refine bi (L.nil ?_); refine cd H (fun hc H => ?_) (fun hc H => ?_)
    ·refine sr ?_; refine ag (L.nil ?_); cases H; exact WpC.ret rt
    ·refine WpC.skip (WpC.seq (sr ?_)); refine fa underlying62 info3 ?_; refine lp shape3 ?_; refine fa underlying62 info3 ?_; refine lp shape3 ?_; refine bi (L.nil ?_); refine cd H (fun hc H => ?_) (fun hc H => ?_)
     ·refine sr ?_; refine ag (L.nil ?_); cases H; exact WpC.ret rt
     ·refine WpC.skip (WpC.seq (sr ?_)); refine fa underlying62 info3 ?_; refine lp shape3 ?_; refine fa underlying62 info3 ?_; refine lp shape3 ?_; refine bi (L.nil ?_); refine cd H (fun hc H => ?_) (fun hc H => ?_)
      ·refine sr ?_; refine ag (L.nil ?_); cases H; exact WpC.ret rt
      ·refine WpC.skip (WpC.seq (sr ?_)); refine fa underlying62 info3 ?_; refine lp shape3 ?_; refine fa underlying62 info3 ?_; refine lp shape3 ?_; refine bi (L.nil ?_); refine cd H (fun hc H => ?_) (fun hc H => ?_)
       ·refine sr ?_; refine ag (L.nil ?_); cases H; exact WpC.ret rt
       ·refine WpC.skip (WpC.seq (sr ?_)); refine fa underlying62 info3 ?_; refine lp shape3 ?_; refine fa underlying62 info3 ?_; refine lp shape3 ?_; refine bi (L.nil ?_); refine cd H (fun hc H => ?_) (fun hc H => ?_)
        ·refine sr ?_; refine ag (L.nil ?_); cases H; exact WpC.ret rt
        ·refine WpC.skip (WpC.seq (sr ?_)); refine fa underlying62 info37 ?_; refine lp shape37 ?_; refine fa underlying62 info37 ?_; refine lp shape37 ?_; obtain ⟨r2, hr2, H⟩ := bindS H; refine c0 24 ent61 (g61 k  a0.Rest a1.Rest r2 hr2) ?_; refine nt (L.nil ?_); refine cd H (fun hc H => ?_) (fun hc H => ?_)
         ·refine sr ?_; refine ag (L.nil ?_); cases H; exact WpC.ret rt
         ·refine WpC.skip (sr ?_); refine ag (L.nil ?_); cases H; exact WpC.ret rt
/-! ### W_eqReply -/
def W_eqReply (k : Nat) (a0 a1 : T_Reply) : Option Bool := cond (a0.Code != a1.Code) (some false) (cond (a0.Term != a1.Term) (some false) ((W_eqEvent k a0.Event a1.Event).bind fun r2 => cond (!r2) (some false) (some true)))
theorem ent28 : MG.Enters Tryz.prog 28 := ⟨Tryz.f28, func28, rfl, by decide⟩
theorem g28 (k : Nat) (a0 a1 : T_Reply) (r : Bool) (H : W_eqReply k a0 a1 = some r) : Gives Tryz.prog 28 [V.agg (bT_Reply a0), V.agg (bT_Reply a1)] [] [V.one (cL r)] [] := by
 refine Gives.intro func28 rfl rfl rfl rfl ?_; refine fx fun w0 T S0 ob oh hm => ?_
 have hF := fxe w0 T S0 21 ob oh
 unfold W_eqReply at H; obtain ⟨K, hK⟩ := leK k; refine sr ?_; refine bo 26 ?_; refine bo 27 ?_; refine ag (L.nil ?_); refine WpC.seq (sr ?_); refine fa underlying64 info3 ?_; refine lp shape3 ?_; refine fa underlying64 info3 ?_; refine lp shape3 ?_; refine bi (L.nil ?_); refine cd H (fun hc H => ?_) (fun hc H => ?_)
 ·refine sr ?_; refine ag (L.nil ?_); cases H; exact WpC.ret rt
 ·refine WpC.skip (WpC.seq (sr ?_)); refine fa underlying64 info9 ?_; refine lp shape9 ?_; refine fa underlying64 info9 ?_; refine lp shape9 ?_; refine L.binS hF rfl rfl rfl rfl rfl (L.nil ?_); refine cd H (fun hc H => ?_) (fun hc H => ?_)
  ·refine sr ?_; refine ag (L.nil ?_); cases H; exact WpC.ret rt
  ·refine WpC.skip (WpC.seq (sr ?_)); refine fa underlying64 info62 ?_; refine lp shape62 ?_; refine fa underlying64 info62 ?_; refine lp shape62 ?_; obtain ⟨r2, hr2, H⟩ := bindS H; refine c0 28 ent95 (g95 k  a0.Event a1.Event r2 hr2) ?_; refine nt (L.nil ?_); refine cd H (fun hc H => ?_) (fun hc H => ?_)
   ·refine sr ?_; refine ag (L.nil ?_); cases H; exact WpC.ret rt
   ·refine WpC.skip (sr ?_); refine ag (L.nil ?_); cases H; exact WpC.ret rt
/-! ### W_eqIntS -/
def W_eqIntS.l2 : Nat → (List Int) → (List Int) → Int → Option Bool
 | 0, _, _, _ => none
 | k2 + 1, v34, v35, v36 => cond (decide (v36 < (v34.length : Int))) ((at? v34 v36).bind fun b39 => (at? v35 v36).bind fun b40 => cond (b39 != b40) (some false) ((W_eqIntS.l2 k2) v34 v35 (IntKind.i64.wrap (v36 + 1)))) (some true)
def W_eqIntS (k : Nat) (a0 a1 : List Int) : Option Bool := cond ((a0.length : Int) != (a1.length : Int)) (some false) (W_eqIntS.l2 k a0 a1 0)
theorem ent62 : MG.Enters Tryz.prog 62 := ⟨Tryz.f62, func62, rfl, by decide⟩
theorem g62 (k : Nat) (g0 g1 : Bool) (a0 a1 : List Int) (r : Bool) (H : W_eqIntS k a0 a1 = some r) : Gives Tryz.prog 62 [V.one (Cell.sl g0 (List.map eI a0)), V.one (Cell.sl g1 (List.map eI a1))] [] [V.one (cL r)] [] := by
 refine Gives.intro func62 rfl rfl rfl rfl ?_; refine fx fun w0 T S0 ob oh hm => ?_
 have hF := fxe w0 T S0 26 ob oh
 unfold W_eqIntS at H; obtain ⟨K, hK⟩ := leK k; refine sr ?_; refine ag (L.nil ?_); refine WpC.seq (sr ?_); refine mv ?_; refine L.lenR (xs := a0) (e := eI) underlying22 hF rfl rfl rfl rfl ?_; refine mv ?_; refine L.lenR (xs := a1) (e := eI) underlying22 hF rfl rfl rfl rfl ?_; refine bi (L.nil ?_); refine cd H (fun hc H => ?_) (fun hc H => ?_)
 ·refine sr ?_; refine ag (L.nil ?_); cases H; exact WpC.ret rt
 ·refine WpC.skip (WpC.seq (sr ?_)); refine ag (L.nil ?_); refine WpC.block ?_; refine WpC.loopL (P := Tryz.prog) (fun n σ => ∃ (v34 v35 : List Int) (v36 : Int), n ≤ K ∧ W_eqIntS.l2 n v34 v35 v36 = some r ∧ σ = mkSt [(0, one (Cell.sl g0 (List.map eI v34))), (1, one (Cell.sl g1 (List.map eI v35))), (5, oI v36)] [] [] 0) k ⟨_, ⟨a0, a1, 0, by omega, H, rfl⟩, lm [] hm⟩ ?_; clear H
  rintro k2 _ ⟨v34, v35, v36, hk2, H, rfl⟩
  cases k2 with
  | zero => cases H
  | succ k2 =>
   rw [W_eqIntS.l2] at H
   refine WpC.seq (sr ?_); refine mv ?_; refine mv ?_; refine L.lenR (xs := v34) (e := eI) underlying22 hF rfl rfl rfl rfl ?_; refine bi (L.nil ?_); refine cd H (fun hc H => ?_) (fun hc H => ?_)
   ·refine WpC.skip (WpC.seq (WpC.block (WpC.seq ?_))); refine S.begin mixed (by kernel_rfl) ?_; refine S.st 0 rfl rfl ((Ca.move).quiet) (fun Q0 k0 => mv (L.nil k0)) ?_; refine S.st 1 rfl rfl ((Ca.move).quiet) (fun Q0 k0 => mv (L.nil k0)) ?_; obtain ⟨b39, hb39, H⟩ := bindS H; refine S.st 2 rfl rfl ((Ca.indexAddr).quiet) (fun Q0 k0 => ix underlying22 info3 hb39 (L.nil k0)) ?_; refine S.st 3 rfl rfl (Qu.load) (fun Q0 k0 => le shape3 (L.nil k0)) ?_; refine S.st 4 rfl rfl ((Ca.move).quiet) (fun Q0 k0 => mv (L.nil k0)) ?_; refine S.st 5 rfl rfl ((Ca.move).quiet) (fun Q0 k0 => mv (L.nil k0)) ?_; obtain ⟨b40, hb40, H⟩ := bindS H; refine S.st 6 rfl rfl ((Ca.indexAddr).quiet) (fun Q0 k0 => ix underlying22 info3 hb40 (L.nil k0)) ?_; refine S.st 7 rfl rfl (Qu.load) (fun Q0 k0 => le shape3 (L.nil k0)) ?_; refine S.st 8 rfl rfl ((Ca.bin rfl rfl (calm_int _ _ _ _ _ _ _ _)).quiet) (fun Q0 k0 => bi (L.nil k0)) ?_; refine S.nil ?_; refine cd H (fun hc H => ?_) (fun hc H => ?_)
    ·refine sr ?_; refine ag (L.nil ?_); cases H; exact WpC.ret rt
    ·refine WpC.skip (WpC.regionL ?_); refine mv ?_; refine bi ?_; refine ag (L.nil ?_); exact ⟨k2, _, by omega, ⟨v34, v35, (IntKind.i64.wrap (v36 + 1)), by omega, H, rfl⟩, lm [] hm⟩
   ·refine WpC.exit (sr ?_); refine ag (L.nil ?_); cases H; exact WpC.ret rt
/-! ### W_eqPair -/
def W_eqPair (k : Nat) (a0 a1 : T_Pair) : Option Bool := cond (a0.A != a1.A) (some false) (cond (a0.B != a1.B) (some false) (some true))
theorem ent124 : MG.Enters Tryz.prog 124 := ⟨Tryz.f124, func124, rfl, by decide⟩
theorem g124 (k : Nat) (a0 a1 : T_Pair) (r : Bool) (H : W_eqPair k a0 a1 = some r) : Gives Tryz.prog 124 [V.agg [cI a0.A, cI a0.B], V.agg [cI a1.A, cI a1.B]] [] [V.one (cL r)] [] := by
 refine Gives.intro func124 rfl rfl rfl rfl ?_; refine fx fun w0 T S0 ob oh hm => ?_
 have hF := fxe w0 T S0 15 ob oh
 unfold W_eqPair at H; obtain ⟨K, hK⟩ := leK k; refine sr ?_; refine bo 4 ?_; refine bo 5 ?_; refine ag (L.nil ?_); refine WpC.seq (sr ?_); refine fa underlying147 info3 ?_; refine lp shape3 ?_; refine fa underlying147 info3 ?_; refine lp shape3 ?_; refine bi (L.nil ?_); refine cd H (fun hc H => ?_) (fun hc H => ?_)
 ·refine sr ?_; refine ag (L.nil ?_); cases H; exact WpC.ret rt
 ·refine WpC.skip (WpC.seq (sr ?_)); refine fa underlying147 info3 ?_; refine lp shape3 ?_; refine fa underlying147 info3 ?_; refine lp shape3 ?_; refine bi (L.nil ?_); refine cd H (fun hc H => ?_) (fun hc H => ?_)
  ·refine sr ?_; refine ag (L.nil ?_); cases H; exact WpC.ret rt
  ·refine WpC.skip (sr ?_); refine ag (L.nil ?_); cases H; exact WpC.ret rt
/-! ### W_eqPairS -/
def W_eqPairS.l2 : Nat → (List T_Pair) → (List T_Pair) → Int → Option Bool
 | 0, _, _, _ => none
 | k2 + 1, v44, v45, v46 => cond (decide (v46 < (v44.length : Int))) ((at? v44 v46).bind fun b50 => (at? v45 v46).bind fun b51 => (W_eqPair k2 b50 b51).bind fun r52 => cond (!r52) (some false) ((W_eqPairS.l2 k2) v44 v45 (IntKind.i64.wrap (v46 + 1)))) (some true)
def W_eqPairS (k : Nat) (a0 a1 : List T_Pair) : Option Bool := cond ((a0.length : Int) != (a1.length : Int)) (some false) (W_eqPairS.l2 k a0 a1 0)
theorem ent63 : MG.Enters Tryz.prog 63 := ⟨Tryz.f63, func63, rfl, by decide⟩
theorem g63 (k : Nat) (g0 g1 : Bool) (a0 a1 : List T_Pair) (r : Bool) (H : W_eqPairS k a0 a1 = some r) : Gives Tryz.prog 63 [V.one (Cell.sl g0 (List.map eT_Pair a0)), V.one (Cell.sl g1 (List.map eT_Pair a1))] [] [V.one (cL r)] [] := by
 refine Gives.intro func63 rfl rfl rfl rfl ?_; refine fx fun w0 T S0 ob oh hm => ?_
 have hF := fxe w0 T S0 27 ob oh
 unfold W_eqPairS at H; obtain ⟨K, hK⟩ := leK k; refine sr ?_; refine ag (L.nil ?_); refine WpC.seq (sr ?_); refine mv ?_; refine L.lenR (xs := a0) (e := eT_Pair) underlying42 hF rfl rfl rfl rfl ?_; refine mv ?_; refine L.lenR (xs := a1) (e := eT_Pair) underlying42 hF rfl rfl rfl rfl ?_; refine bi (L.nil ?_); refine cd H (fun hc H => ?_) (fun hc H => ?_)
 ·refine sr ?_; refine ag (L.nil ?_); cases H; exact WpC.ret rt
 ·refine WpC.skip (WpC.seq (sr ?_)); refine ag (L.nil ?_); refine WpC.block ?_; refine WpC.loopL (P := Tryz.prog) (fun n σ => ∃ (v44 v45 : List T_Pair) (v46 : Int), n ≤ K ∧ W_eqPairS.l2 n v44 v45 v46 = some r ∧ σ = mkSt [(0, one (Cell.sl g0 (List.map eT_Pair v44))), (1, one (Cell.sl g1 (List.map eT_Pair v45))), (5, oI v46)] [] [] 0) k ⟨_, ⟨a0, a1, 0, by omega, H, rfl⟩, lm [] hm⟩ ?_; clear H
  rintro k2 _ ⟨v44, v45, v46, hk2, H, rfl⟩
  cases k2 with
  | zero => cases H
  | succ k2 =>
   rw [W_eqPairS.l2] at H
   refine WpC.seq (sr ?_); refine mv ?_; refine mv ?_; refine L.lenR (xs := v44) (e := eT_Pair) underlying42 hF rfl rfl rfl rfl ?_; refine bi (L.nil ?_); refine cd H (fun hc H => ?_) (fun hc H => ?_)
   ·refine WpC.skip (WpC.seq (WpC.block (WpC.seq ?_))); obtain ⟨b50, hb50, H⟩ := bindS H; obtain ⟨b51, hb51, H⟩ := bindS H; obtain ⟨r52, hr52, H⟩ := bindS H; refine A.begin mixed rfl rfl ?_; intro W hI hO
    have n255 : W 2 #[true, true, true, true, true, true, true, true, false, false] (mkSt [(0, one (Cell.sl g0 (List.map eT_Pair v44))), (1, one (Cell.sl g1 (List.map eT_Pair v45))), (5, oI v46), (20, agg [cI b50.A, cI b50.B]), (24, agg [cI b51.A, cI b51.B])] [] [] 0) := by
     refine hI _ _ _ ?_; refine A.all [8] (by kernel_rfl) rfl ⟨⟨_, rfl, ?_⟩, trivial⟩; refine c0 0 ent124 (g124 k2  b50 b51 r52 hr52) (L.nil ?_); refine Atk 9 rfl (Ca.un rfl rfl) (fun Q0 k0 => nt (L.nil k0)) ?_; refine A.le (τ := mkSt [(0, one (Cell.sl g0 (List.map eT_Pair v44))), (1, one (Cell.sl g1 (List.map eT_Pair v45))), (5, oI v46), (26, oL (!r52))] [] [] 0) (lm [] hm) ?_; refine A.done (by kernel_rfl) ?_; refine cd H (fun hc H => ?_) (fun hc H => ?_)
     ·refine sr ?_; refine ag (L.nil ?_); cases H; exact WpC.ret rt
     ·refine WpC.skip (WpC.regionL ?_); refine mv ?_; refine bi ?_; refine ag (L.nil ?_); exact ⟨k2, _, by omega, ⟨v44, v45, (IntKind.i64.wrap (v46 + 1)), by omega, H, rfl⟩, lm [] hm⟩
    refine hI _ _ _ ?_; refine tM 0 ?_; refine tM 1 ?_; refine Atk 2 rfl (Ca.indexAddr) (fun Q0 k0 => ix underlying42 info147 hb50 (L.nil k0)) ?_; refine tM 4 ?_; refine tM 5 ?_; refine Atk 6 rfl (Ca.indexAddr) (fun Q0 k0 => ix underlying42 info147 hb51 (L.nil k0)) ?_; refine A.all [3, 7] (by kernel_rfl) rfl ⟨⟨_, rfl, ?_⟩, ⟨_, rfl, ?_⟩, trivial⟩
    ·refine le shape147 (L.nil ?_); refine A.all [7] (by kernel_rfl) rfl ⟨⟨_, rfl, ?_⟩, trivial⟩; refine le shape147 (L.nil ?_); exact A.on (hO _ _ _ n255) (lm [] hm)
    ·refine le shape147 (L.nil ?_); refine A.all [3] (by kernel_rfl) rfl ⟨⟨_, rfl, ?_⟩, trivial⟩; refine le shape147 (L.nil ?_); exact A.on (hO _ _ _ n255) (lm [] hm)
   ·refine WpC.exit (sr ?_); refine ag (L.nil ?_); cases H; exact WpC.ret rt
/-! ### W_eqConfig -/
def W_eqConfig (k : Nat) (a0 a1 : T_Config) : Option Bool := (W_eqIntS k a0.UserRealm a1.UserRealm).bind fun r2 => cond (!r2) (some false) ((W_eqIntS k a0.ServiceRealm a1.ServiceRealm).bind fun r4 => cond (!r4) (some false) ((W_eqPairS k a0.Links a1.Links).bind fun r6 => cond (!r6) (some false) ((W_eqPairS k a0.Proxy a1.Proxy).bind fun r8 => cond (!r8) (some false) (cond (a0.Skew != a1.Skew) (some false) (some true)))))
theorem ent15 : MG.Enters Tryz.prog 15 := ⟨Tryz.f15, func15, rfl, by decide⟩
theorem g15 (k : Nat) (g0 g1 g2 g3 g4 g5 g6 g7 : Bool) (a0 a1 : T_Config) (r : Bool) (H : W_eqConfig k a0 a1 = some r) : Gives Tryz.prog 15 [V.agg (bT_Config g0 g1 g2 g3 a0), V.agg (bT_Config g4 g5 g6 g7 a1)] [] [V.one (cL r)] [] := by
 refine Gives.intro func15 rfl rfl rfl rfl ?_; refine fx fun w0 T S0 ob oh hm => ?_
 have hF := fxe w0 T S0 34 ob oh
 unfold W_eqConfig at H; obtain ⟨K, hK⟩ := leK k; refine sr ?_; refine bo 10 ?_; refine bo 11 ?_; refine ag (L.nil ?_); refine WpC.seq (sr ?_); refine fa underlying44 info22 ?_; refine lp shape22 ?_; refine fa underlying44 info22 ?_; refine lp shape22 ?_; obtain ⟨r2, hr2, H⟩ := bindS H; refine c0 12 ent62 (g62 k g0 g4 a0.UserRealm a1.UserRealm r2 hr2) ?_; refine nt (L.nil ?_); refine cd H (fun hc H => ?_) (fun hc H => ?_)
 ·refine sr ?_; refine ag (L.nil ?_); cases H; exact WpC.ret rt
 ·refine WpC.skip (WpC.seq (sr ?_)); refine fa underlying44 info22 ?_; refine lp shape22 ?_; refine fa underlying44 info22 ?_; refine lp shape22 ?_; obtain ⟨r4, hr4, H⟩ := bindS H; refine c0 13 ent62 (g62 k g1 g5 a0.ServiceRealm a1.ServiceRealm r4 hr4) ?_; refine nt (L.nil ?_); refine cd H (fun hc H => ?_) (fun hc H => ?_)
  ·refine sr ?_; refine ag (L.nil ?_); cases H; exact WpC.ret rt
  ·refine WpC.skip (WpC.seq (sr ?_)); refine fa underlying44 info42 ?_; refine lp shape42 ?_; refine fa underlying44 info42 ?_; refine lp shape42 ?_; obtain ⟨r6, hr6, H⟩ := bindS H; refine c0 14 ent63 (g63 k g2 g6 a0.Links a1.Links r6 hr6) ?_; refine nt (L.nil ?_); refine cd H (fun hc H => ?_) (fun hc H => ?_)
   ·refine sr ?_; refine ag (L.nil ?_); cases H; exact WpC.ret rt
   ·refine WpC.skip (WpC.seq (sr ?_)); refine fa underlying44 info42 ?_; refine lp shape42 ?_; refine fa underlying44 info42 ?_; refine lp shape42 ?_; obtain ⟨r8, hr8, H⟩ := bindS H; refine c0 15 ent63 (g63 k g3 g7 a0.Proxy a1.Proxy r8 hr8) ?_; refine nt (L.nil ?_); refine cd H (fun hc H => ?_) (fun hc H => ?_)
    ·refine sr ?_; refine ag (L.nil ?_); cases H; exact WpC.ret rt
    ·refine WpC.skip (WpC.seq (sr ?_)); refine fa underlying44 info3 ?_; refine lp shape3 ?_; refine fa underlying44 info3 ?_; refine lp shape3 ?_; refine bi (L.nil ?_); refine cd H (fun hc H => ?_) (fun hc H => ?_)
     ·refine sr ?_; refine ag (L.nil ?_); cases H; exact WpC.ret rt
     ·refine WpC.skip (sr ?_); refine ag (L.nil ?_); cases H; exact WpC.ret rt
/-! ### W_FnExactCentre -/
def W_FnExactCentre (k : Nat) (a0 : L_Config) (a1 a2 a3 : Int) (a4 : List UInt8) : Option Bool := cond (decide ((a4.length : Int) > 1048576)) (some true) ((W_szConfig k a0 1048576).bind fun r1 => cond (decide (r1 < 0)) (some true) ((W_toConfig k a0).bind fun r2 => (S_Centre k r2 a1 a2 a3 a4).bind fun r3 => (W_toConfig k a0).bind fun r4 => (I_Centre k r4 a1 a2 a3 a4).bind fun r5 => (W_eqReply k r5 r3).bind fun r7 => cond (!r7) (some false) ((W_toConfig k a0).bind fun r10 => (W_eqConfig k r4 r10).bind fun r11 => cond (!r11) (some false) (some true))))
theorem ent5 : MG.Enters Tryz.prog 5 := ⟨Tryz.f5, func5, rfl, by decide⟩
theorem g5 (k : Nat) (g0 g1 g2 g3 : Bool) (a0 : L_Config) (a1 a2 a3 : Int) (a4 : List UInt8) (r : Bool) (H : W_FnExactCentre k a0 a1 a2 a3 a4 = some r) : Gives Tryz.prog 5 [V.agg (bL_Config g0 g1 g2 g3 a0), V.one (cI a1), V.one (cI a2), V.one (cI a3), V.one (cS a4)] [] [V.one (cL r)] [] := by
 refine Gives.intro func5 rfl rfl rfl rfl ?_; refine fx fun w0 T S0 ob oh hm => ?_
 have hF := fxe w0 T S0 47 ob oh
 unfold W_FnExactCentre at H; obtain ⟨K, hK⟩ := leK k; refine sr ?_; refine bo 9 ?_; refine ag ?_; refine L.le (τ := mkSt [(1, oI a1), (2, oI a2), (3, oI a3), (4, oS a4), (5, oP 0 0)] [] [(0, (bL_Config g0 g1 g2 g3 a0))] 1) (lm [(0, 9)] hm) (L.nil ?_); refine WpC.seq (sr ?_); refine mv ?_; refine L.lenS underlying9 hF rfl rfl rfl ?_; refine bi ?_; refine L.le (τ := mkSt [(1, oI a1), (2, oI a2), (3, oI a3), (4, oS a4), (5, oP 0 0), (17, one (cL (decide ((a4.length : Int) > 1048576))))] [] [(0, (bL_Config g0 g1 g2 g3 a0))] 1) (lm [(0, 0)] hm) (L.nil ?_); refine cd H (fun hc H => ?_) (fun hc H => ?_)
 ·refine sr ?_; refine ag ?_; refine L.le (τ := mkSt [(10, oL true)] [] [] 0) (lm [] hm) (L.nil ?_); cases H; exact WpC.ret rt
 ·refine WpC.skip (sr ?_); refine ag ?_; refine L.le (τ := mkSt [(1, oI a1), (2, oI a2), (3, oI a3), (4, oS a4), (5, oP 0 0), (11, oI 1048576)] [] [(0, (bL_Config g0 g1 g2 g3 a0))] 1) (lm [(0, 0)] hm) (L.nil ?_); refine sr ?_; refine lp shape25 ?_; refine mv ?_; obtain ⟨r1, hr1, H⟩ := bindS H; refine c0 1 ent7 (g7 k g0 g1 g2 g3 a0 1048576 r1 hr1) ?_; refine ag ?_; refine L.le (τ := mkSt [(1, oI a1), (2, oI a2), (3, oI a3), (4, oS a4), (5, oP 0 0), (11, oI r1)] [] [(0, (bL_Config g0 g1 g2 g3 a0))] 1) (lm [(0, 0)] hm) (L.nil ?_); refine WpC.seq (sr ?_); refine mv ?_; refine bi ?_; refine L.le (τ := mkSt [(1, oI a1), (2, oI a2), (3, oI a3), (4, oS a4), (5, oP 0 0), (22, one (cL (decide (r1 < 0))))] [] [(0, (bL_Config g0 g1 g2 g3 a0))] 1) (lm [(0, 0)] hm) (L.nil ?_); refine cd H (fun hc H => ?_) (fun hc H => ?_)
  ·refine sr ?_; refine ag ?_; refine L.le (τ := mkSt [(10, oL true)] [] [] 0) (lm [] hm) (L.nil ?_); cases H; exact WpC.ret rt
  ·refine WpC.skip (sr ?_); refine lp shape25 ?_; obtain ⟨r2, hr2, H⟩ := bindS H; refine c0 1 ent10 (g10 k g0 g1 g2 g3 a0 r2 hr2) ?_; refine mv ?_; refine mv ?_; refine mv ?_; refine mv ?_; obtain ⟨r3, hr3, H⟩ := bindS H; refine ca [false, false, false, false, false] [1, 2, 3, 4] [] 6 ent26 (g26 k false false false false r2 a1 a2 a3 a4 r3 hr3) ?_; refine alc 19 info64 ?_; refine sp shape64 ?_; refine L.le (τ := mkSt [(1, oI a1), (2, oI a2), (3, oI a3), (4, oS a4), (5, oP 0 0), (12, oP 1 0)] [] [(0, (bL_Config g0 g1 g2 g3 a0)), (1, (bT_Reply r3))] 2) (lm [(0, 0), (1, 19)] hm) (L.nil ?_); refine sr ?_; refine lp shape25 ?_; obtain ⟨r4, hr4, H⟩ := bindS H; refine c0 2 ent10 (g10 k g0 g1 g2 g3 a0 r4 hr4) ?_; refine alc 7 info44 ?_; refine sp shape44 ?_
   refine L.le (τ := mkSt [(1, oI a1), (2, oI a2), (3, oI a3), (4, oS a4), (5, oP 0 0), (12, oP 1 0), (13, oP 2 0)] [(3, ⟨1, List.map eI r4.UserRealm⟩), (4, ⟨1, List.map eI r4.ServiceRealm⟩), (5, ⟨2, List.map eT_Pair r4.Links⟩), (6, ⟨2, List.map eT_Pair r4.Proxy⟩)] [(0, (bL_Config g0 g1 g2 g3 a0)), (1, (bT_Reply r3)), (2, [Cell.own 3, Cell.own 4, Cell.own 5, Cell.own 6, cI r4.Skew])] 7) (lm [(0, 0), (1, 1), (2, 7), (3, 2), (4, 3), (5, 4), (6, 5)] hm) (L.nil ?_); refine sr ?_; refine lp shape44 ?_; refine mv ?_; refine mv ?_; refine mv ?_; refine mv ?_; obtain ⟨r5, hr5, H⟩ := bindS H; refine ca [false, false, false, false, false] [3, 4, 5, 6] [] 7 ent27 (g27 k false false false false r4 a1 a2 a3 a4 r5 hr5) ?_; refine alc 20 info64 ?_; refine sp shape64 ?_
   refine L.le (τ := mkSt [(5, oP 0 0), (12, oP 1 0), (13, oP 2 0), (14, oP 3 0)] [(4, ⟨1, List.map eI r4.UserRealm⟩), (5, ⟨1, List.map eI r4.ServiceRealm⟩), (6, ⟨2, List.map eT_Pair r4.Links⟩), (7, ⟨2, List.map eT_Pair r4.Proxy⟩)] [(0, (bL_Config g0 g1 g2 g3 a0)), (1, (bT_Reply r3)), (2, [Cell.own 4, Cell.own 5, Cell.own 6, Cell.own 7, cI r4.Skew]), (3, (bT_Reply r5))] 8) (lm [(0, 0), (1, 1), (2, 2), (3, 20), (4, 3), (5, 4), (6, 5), (7, 6)] hm) (L.nil ?_); refine WpC.seq (sr ?_); refine lp shape64 ?_; refine lp shape64 ?_; obtain ⟨r7, hr7, H⟩ := bindS H; refine c0 8 ent28 (g28 k  r5 r3 r7 hr7) ?_; refine nt ?_; refine L.le (τ := mkSt [(5, oP 0 0), (13, oP 1 0), (41, oL (!r7))] [(2, ⟨1, List.map eI r4.UserRealm⟩), (3, ⟨1, List.map eI r4.ServiceRealm⟩), (4, ⟨2, List.map eT_Pair r4.Links⟩), (5, ⟨2, List.map eT_Pair r4.Proxy⟩)] [(0, (bL_Config g0 g1 g2 g3 a0)), (1, [Cell.own 2, Cell.own 3, Cell.own 4, Cell.own 5, cI r4.Skew])] 6) (lm [(0, 0), (1, 2), (2, 4), (3, 5), (4, 6), (5, 7)] hm) (L.nil ?_); refine cd H (fun hc H => ?_) (fun hc H => ?_)
   ·refine sr ?_; refine ag ?_; refine L.le (τ := mkSt [(10, oL false)] [] [] 0) (lm [] hm) (L.nil ?_); cases H; exact WpC.ret rt
   ·refine WpC.skip (WpC.seq (WpC.seq ?_)); obtain ⟨r10, hr10, H⟩ := bindS H; obtain ⟨r11, hr11, H⟩ := bindS H; refine A.lin (fun β => mkStL [(5, iP 0 0), (13, iP 1 0), (42, al (β 0) (agg [Cell.own 2, Cell.own 3, Cell.own 4, Cell.own 5, cI r4.Skew])), (43, al (β 1) (agg (bL_Config g0 g1 g2 g3 a0))), (44, al (β 2) (agg [Cell.own 6, Cell.own 7, Cell.own 8, Cell.own 9, cI r10.Skew])), (45, al (β 3) (one (cL r11))), (46, al (β 4) (one (cL (!r11))))] [(2, ai (⟨1, List.map eI r4.UserRealm⟩)), (3, ai (⟨1, List.map eI r4.ServiceRealm⟩)), (4, ai (⟨2, List.map eT_Pair r4.Links⟩)), (5, ai (⟨2, List.map eT_Pair r4.Proxy⟩)), (6, al (β 2) (⟨1, List.map eI r10.UserRealm⟩)), (7, al (β 2) (⟨1, List.map eI r10.ServiceRealm⟩)), (8, al (β 2) (⟨2, List.map eT_Pair r10.Links⟩)), (9, al (β 2) (⟨2, List.map eT_Pair r10.Proxy⟩))] [(0, ai ((bL_Config g0 g1 g2 g3 a0))), (1, ai ([Cell.own 2, Cell.own 3, Cell.own 4, Cell.own 5, cI r4.Skew]))] 12) [([], [3, 4]), ([], [2, 3, 4]), ([1], [3, 4]), ([0, 1, 2], [4]), ([0, 1, 2, 3], [])] 5 mixed rfl (by kernel_rfl) ?_ ?_ ?_
    ·exact Le.lin [] hm rfl (sa2 (kn (kn4 kz))) (ra (ra (ra (ra (kn4 kz))))) (ba (ba kz))
    ·repeat' (first | exact trivial | refine ⟨⟨_, rfl, fun β => ?_⟩, ?_⟩ | fail)
     ·refine lp shape44 ?_; exact lx [] hm
     ·refine lp shape25 ?_; exact lx [] hm
     ·refine c0 12 ent10 (g10 k g0 g1 g2 g3 a0 r10 hr10) ?_; exact lx [(6, 12), (7, 13), (8, 14), (9, 15), (10, 16)] hm
     ·refine ca [false, false] [2, 3, 4, 5, 6, 7, 8, 9] [] 12 ent15 (g15 k false false false false false false false false r4 r10 r11 hr11) ?_; exact lx [(11, 12)] hm
     ·refine nt ?_; exact lx [] hm
    refine ⟨_, (lm [] hm : Le _ _ (mkSt [(46, oL (!r11))] [] [] 0)), ?_⟩; refine cd H (fun hc H => ?_) (fun hc H => ?_)
    ·refine sr ?_; refine ag ?_; refine L.le (τ := mkSt [(10, oL false)] [] [] 0) (lm [] hm) (L.nil ?_); cases H; exact WpC.ret rt
    ·refine WpC.skip (sr ?_); refine ag ?_; refine L.le (τ := mkSt [(10, oL true)] [] [] 0) (lm [] hm) (L.nil ?_); cases H; exact WpC.ret rt
theorem open22 : Go.MG.Opens Tryz.prog 22 (Go.MG.eR Go.MG.eI) (Go.MG.wfR Go.MG.wfI) := Go.MG.Opens.slice Tryz.underlying22 (Go.MG.Opens.int Tryz.underlying3) (fun _ => (by kernel_rfl : Tryz.prog.cellsOf 3 = 1).symm) (fun _ => rfl) (fun _ => rfl) (by kernel_rfl)
def wfL_Pair (x : L_Pair) : Prop := Go.MG.wfI x.A ∧ Go.MG.wfI x.B
theorem open149 : Go.MG.Opens Tryz.prog 149 eL_Pair wfL_Pair := by
  intro H enc W fuel cs x h
  obtain ⟨n, hp⟩ := Go.MG.struct_parts Tryz.underlying149 (by kernel_rfl : Tryz.prog.cellsOf 149 = 2) (by kernel_rfl) h
  obtain ⟨c0, k0, y0, rfl, h0, hp⟩ := hp
  obtain ⟨c1, k1, y1, rfl, h1, hp⟩ := hp
  obtain rfl := hp
  obtain ⟨a0, r0, w0⟩ := (Go.MG.Opens.int Tryz.underlying3) _ _ _ _ _ _ h0
  obtain ⟨a1, r1, w1⟩ := (Go.MG.Opens.int Tryz.underlying3) _ _ _ _ _ _ h1
  exact ⟨⟨a0, a1⟩, (r0.append (r1.append (rfl : Go.MG.RCs _ [] []))), w0, w1⟩
theorem open23 : Go.MG.Opens Tryz.prog 23 (Go.MG.eR eL_Pair) (Go.MG.wfR wfL_Pair) := Go.MG.Opens.slice Tryz.underlying23 open149 (fun _ => (by kernel_rfl : Tryz.prog.cellsOf 149 = 2).symm) (fun _ => rfl) (fun _ => rfl) (by kernel_rfl)
def wfL_Config (x : L_Config) : Prop := (Go.MG.wfR Go.MG.wfI) x.UserRealm ∧ (Go.MG.wfR Go.MG.wfI) x.ServiceRealm ∧ (Go.MG.wfR wfL_Pair) x.Links ∧ (Go.MG.wfR wfL_Pair) x.Proxy ∧ Go.MG.wfI x.Skew
theorem open25 : Go.MG.Opens Tryz.prog 25 eL_Config wfL_Config := by
  intro H enc W fuel cs x h
  obtain ⟨n, hp⟩ := Go.MG.struct_parts Tryz.underlying25 (by kernel_rfl : Tryz.prog.cellsOf 25 = 5) (by kernel_rfl) h
  obtain ⟨c0, k0, y0, rfl, h0, hp⟩ := hp
  obtain ⟨c1, k1, y1, rfl, h1, hp⟩ := hp
  obtain ⟨c2, k2, y2, rfl, h2, hp⟩ := hp
  obtain ⟨c3, k3, y3, rfl, h3, hp⟩ := hp
  obtain ⟨c4, k4, y4, rfl, h4, hp⟩ := hp
  obtain rfl := hp
  obtain ⟨a0, r0, w0⟩ := open22 _ _ _ _ _ _ h0
  obtain ⟨a1, r1, w1⟩ := open22 _ _ _ _ _ _ h1
  obtain ⟨a2, r2, w2⟩ := open23 _ _ _ _ _ _ h2
  obtain ⟨a3, r3, w3⟩ := open23 _ _ _ _ _ _ h3
  obtain ⟨a4, r4, w4⟩ := (Go.MG.Opens.int Tryz.underlying3) _ _ _ _ _ _ h4
  exact ⟨⟨a0, a1, a2, a3, a4⟩, (r0.append (r1.append (r2.append (r3.append (r4.append (rfl : Go.MG.RCs _ [] [])))))), w0, w1, w2, w3, w4⟩
end Go.Proofs.YtbjbagemlclgcaaGreat.M
