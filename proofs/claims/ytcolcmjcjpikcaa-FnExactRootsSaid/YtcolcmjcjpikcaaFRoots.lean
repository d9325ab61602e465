import Derived.Test.YtcolcmjcjpikcaaFRootsx1
import Derived.Test.YtcolcmjcjpikcaaProg
namespace Go.Proofs.Ytcolcmjcjpikcaa.M
open Go Go.MG
set_option linter.unusedVariables false
set_option linter.unusedSimpArgs false
/-! ### Flaws_markEventS -/
def Flaws_markEventS.l2 : Nat → (List Timpl_Event) → Int → Int → Option (Int × List Timpl_Event)
  | 0, _, _, _ => none
  | k2 + 1, v124, v125, v126 => cond (decide (v126 < (v124.length : Int))) ((at? v124 v126).bind fun b138 => (at? (v124.set v126.toNat (⟨v125, b138.Realm, b138.By, b138.Client, b138.Service, b138.Key, b138.Parent, b138.Evid, (⟨b138.Rest.Servers, b138.Rest.Ops, b138.Rest.End⟩ : Timpl_Rest)⟩ : Timpl_Event)) v126).bind fun b139 => (at? ((v124.set v126.toNat (⟨v125, b138.Realm, b138.By, b138.Client, b138.Service, b138.Key, b138.Parent, b138.Evid, (⟨b138.Rest.Servers, b138.Rest.Ops, b138.Rest.End⟩ : Timpl_Rest)⟩ : Timpl_Event)).set v126.toNat (⟨b139.Kind, (IntKind.i64.wrap (v125 + (1 : Int))), b139.By, b139.Client, b139.Service, b139.Key, b139.Parent, b139.Evid, (⟨b139.Rest.Servers, b139.Rest.Ops, b139.Rest.End⟩ : Timpl_Rest)⟩ : Timpl_Event)) v126).bind fun b140 => (at? (((v124.set v126.toNat (⟨v125, b138.Realm, b138.By, b138.Client, b138.Service, b138.Key, b138.Parent, b138.Evid, (⟨b138.Rest.Servers, b138.Rest.Ops, b138.Rest.End⟩ : Timpl_Rest)⟩ : Timpl_Event)).set v126.toNat (⟨b139.Kind, (IntKind.i64.wrap (v125 + (1 : Int))), b139.By, b139.Client, b139.Service, b139.Key, b139.Parent, b139.Evid, (⟨b139.Rest.Servers, b139.Rest.Ops, b139.Rest.End⟩ : Timpl_Rest)⟩ : Timpl_Event)).set v126.toNat (⟨b140.Kind, b140.Realm, (IntKind.i64.wrap ((IntKind.i64.wrap (v125 + (1 : Int))) + (1 : Int))), b140.Client, b140.Service, b140.Key, b140.Parent, b140.Evid, (⟨b140.Rest.Servers, b140.Rest.Ops, b140.Rest.End⟩ : Timpl_Rest)⟩ : Timpl_Event)) v126).bind fun b141 => (at? ((((v124.set v126.toNat (⟨v125, b138.Realm, b138.By, b138.Client, b138.Service, b138.Key, b138.Parent, b138.Evid, (⟨b138.Rest.Servers, b138.Rest.Ops, b138.Rest.End⟩ : Timpl_Rest)⟩ : Timpl_Event)).set v126.toNat (⟨b139.Kind, (IntKind.i64.wrap (v125 + (1 : Int))), b139.By, b139.Client, b139.Service, b139.Key, b139.Parent, b139.Evid, (⟨b139.Rest.Servers, b139.Rest.Ops, b139.Rest.End⟩ : Timpl_Rest)⟩ : Timpl_Event)).set v126.toNat (⟨b140.Kind, b140.Realm, (IntKind.i64.wrap ((IntKind.i64.wrap (v125 + (1 : Int))) + (1 : Int))), b140.Client, b140.Service, b140.Key, b140.Parent, b140.Evid, (⟨b140.Rest.Servers, b140.Rest.Ops, b140.Rest.End⟩ : Timpl_Rest)⟩ : Timpl_Event)).set v126.toNat (⟨b141.Kind, b141.Realm, b141.By, (IntKind.i64.wrap ((IntKind.i64.wrap ((IntKind.i64.wrap (v125 + (1 : Int))) + (1 : Int))) + (1 : Int))), b141.Service, b141.Key, b141.Parent, b141.Evid, (⟨b141.Rest.Servers, b141.Rest.Ops, b141.Rest.End⟩ : Timpl_Rest)⟩ : Timpl_Event)) v126).bind fun b142 => (at? (((((v124.set v126.toNat (⟨v125, b138.Realm, b138.By, b138.Client, b138.Service, b138.Key, b138.Parent, b138.Evid, (⟨b138.Rest.Servers, b138.Rest.Ops, b138.Rest.End⟩ : Timpl_Rest)⟩ : Timpl_Event)).set v126.toNat (⟨b139.Kind, (IntKind.i64.wrap (v125 + (1 : Int))), b139.By, b139.Client, b139.Service, b139.Key, b139.Parent, b139.Evid, (⟨b139.Rest.Servers, b139.Rest.Ops, b139.Rest.End⟩ : Timpl_Rest)⟩ : Timpl_Event)).set v126.toNat (⟨b140.Kind, b140.Realm, (IntKind.i64.wrap ((IntKind.i64.wrap (v125 + (1 : Int))) + (1 : Int))), b140.Client, b140.Service, b140.Key, b140.Parent, b140.Evid, (⟨b140.Rest.Servers, b140.Rest.Ops, b140.Rest.End⟩ : Timpl_Rest)⟩ : Timpl_Event)).set v126.toNat (⟨b141.Kind, b141.Realm, b141.By, (IntKind.i64.wrap ((IntKind.i64.wrap ((IntKind.i64.wrap (v125 + (1 : Int))) + (1 : Int))) + (1 : Int))), b141.Service, b141.Key, b141.Parent, b141.Evid, (⟨b141.Rest.Servers, b141.Rest.Ops, b141.Rest.End⟩ : Timpl_Rest)⟩ : Timpl_Event)).set v126.toNat (⟨b142.Kind, b142.Realm, b142.By, b142.Client, (IntKind.i64.wrap ((IntKind.i64.wrap ((IntKind.i64.wrap ((IntKind.i64.wrap (v125 + (1 : Int))) + (1 : Int))) + (1 : Int))) + (1 : Int))), b142.Key, b142.Parent, b142.Evid, (⟨b142.Rest.Servers, b142.Rest.Ops, b142.Rest.End⟩ : Timpl_Rest)⟩ : Timpl_Event)) v126).bind fun b143 => (at? ((((((v124.set v126.toNat (⟨v125, b138.Realm, b138.By, b138.Client, b138.Service, b138.Key, b138.Parent, b138.Evid, (⟨b138.Rest.Servers, b138.Rest.Ops, b138.Rest.End⟩ : Timpl_Rest)⟩ : Timpl_Event)).set v126.toNat (⟨b139.Kind, (IntKind.i64.wrap (v125 + (1 : Int))), b139.By, b139.Client, b139.Service, b139.Key, b139.Parent, b139.Evid, (⟨b139.Rest.Servers, b139.Rest.Ops, b139.Rest.End⟩ : Timpl_Rest)⟩ : Timpl_Event)).set v126.toNat (⟨b140.Kind, b140.Realm, (IntKind.i64.wrap ((IntKind.i64.wrap (v125 + (1 : Int))) + (1 : Int))), b140.Client, b140.Service, b140.Key, b140.Parent, b140.Evid, (⟨b140.Rest.Servers, b140.Rest.Ops, b140.Rest.End⟩ : Timpl_Rest)⟩ : Timpl_Event)).set v126.toNat (⟨b141.Kind, b141.Realm, b141.By, (IntKind.i64.wrap ((IntKind.i64.wrap ((IntKind.i64.wrap (v125 + (1 : Int))) + (1 : Int))) + (1 : Int))), b141.Service, b141.Key, b141.Parent, b141.Evid, (⟨b141.Rest.Servers, b141.Rest.Ops, b141.Rest.End⟩ : Timpl_Rest)⟩ : Timpl_Event)).set v126.toNat (⟨b142.Kind, b142.Realm, b142.By, b142.Client, (IntKind.i64.wrap ((IntKind.i64.wrap ((IntKind.i64.wrap ((IntKind.i64.wrap (v125 + (1 : Int))) + (1 : Int))) + (1 : Int))) + (1 : Int))), b142.Key, b142.Parent, b142.Evid, (⟨b142.Rest.Servers, b142.Rest.Ops, b142.Rest.End⟩ : Timpl_Rest)⟩ : Timpl_Event)).set v126.toNat (⟨b143.Kind, b143.Realm, b143.By, b143.Client, b143.Service, (IntKind.i64.wrap ((IntKind.i64.wrap ((IntKind.i64.wrap ((IntKind.i64.wrap ((IntKind.i64.wrap (v125 + (1 : Int))) + (1 : Int))) + (1 : Int))) + (1 : Int))) + (1 : Int))), b143.Parent, b143.Evid, (⟨b143.Rest.Servers, b143.Rest.Ops, b143.Rest.End⟩ : Timpl_Rest)⟩ : Timpl_Event)) v126).bind fun b144 => (at? (((((((v124.set v126.toNat (⟨v125, b138.Realm, b138.By, b138.Client, b138.Service, b138.Key, b138.Parent, b138.Evid, (⟨b138.Rest.Servers, b138.Rest.Ops, b138.Rest.End⟩ : Timpl_Rest)⟩ : Timpl_Event)).set v126.toNat (⟨b139.Kind, (IntKind.i64.wrap (v125 + (1 : Int))), b139.By, b139.Client, b139.Service, b139.Key, b139.Parent, b139.Evid, (⟨b139.Rest.Servers, b139.Rest.Ops, b139.Rest.End⟩ : Timpl_Rest)⟩ : Timpl_Event)).set v126.toNat (⟨b140.Kind, b140.Realm, (IntKind.i64.wrap ((IntKind.i64.wrap (v125 + (1 : Int))) + (1 : Int))), b140.Client, b140.Service, b140.Key, b140.Parent, b140.Evid, (⟨b140.Rest.Servers, b140.Rest.Ops, b140.Rest.End⟩ : Timpl_Rest)⟩ : Timpl_Event)).set v126.toNat (⟨b141.Kind, b141.Realm, b141.By, (IntKind.i64.wrap ((IntKind.i64.wrap ((IntKind.i64.wrap (v125 + (1 : Int))) + (1 : Int))) + (1 : Int))), b141.Service, b141.Key, b141.Parent, b141.Evid, (⟨b141.Rest.Servers, b141.Rest.Ops, b141.Rest.End⟩ : Timpl_Rest)⟩ : Timpl_Event)).set v126.toNat (⟨b142.Kind, b142.Realm, b142.By, b142.Client, (IntKind.i64.wrap ((IntKind.i64.wrap ((IntKind.i64.wrap ((IntKind.i64.wrap (v125 + (1 : Int))) + (1 : Int))) + (1 : Int))) + (1 : Int))), b142.Key, b142.Parent, b142.Evid, (⟨b142.Rest.Servers, b142.Rest.Ops, b142.Rest.End⟩ : Timpl_Rest)⟩ : Timpl_Event)).set v126.toNat (⟨b143.Kind, b143.Realm, b143.By, b143.Client, b143.Service, (IntKind.i64.wrap ((IntKind.i64.wrap ((IntKind.i64.wrap ((IntKind.i64.wrap ((IntKind.i64.wrap (v125 + (1 : Int))) + (1 : Int))) + (1 : Int))) + (1 : Int))) + (1 : Int))), b143.Parent, b143.Evid, (⟨b143.Rest.Servers, b143.Rest.Ops, b143.Rest.End⟩ : Timpl_Rest)⟩ : Timpl_Event)).set v126.toNat (⟨b144.Kind, b144.Realm, b144.By, b144.Client, b144.Service, b144.Key, (IntKind.i64.wrap ((IntKind.i64.wrap ((IntKind.i64.wrap ((IntKind.i64.wrap ((IntKind.i64.wrap ((IntKind.i64.wrap (v125 + (1 : Int))) + (1 : Int))) + (1 : Int))) + (1 : Int))) + (1 : Int))) + (1 : Int))), b144.Evid, (⟨b144.Rest.Servers, b144.Rest.Ops, b144.Rest.End⟩ : Timpl_Rest)⟩ : Timpl_Event)) v126).bind fun b145 => (at? ((((((((v124.set v126.toNat (⟨v125, b138.Realm, b138.By, b138.Client, b138.Service, b138.Key, b138.Parent, b138.Evid, (⟨b138.Rest.Servers, b138.Rest.Ops, b138.Rest.End⟩ : Timpl_Rest)⟩ : Timpl_Event)).set v126.toNat (⟨b139.Kind, (IntKind.i64.wrap (v125 + (1 : Int))), b139.By, b139.Client, b139.Service, b139.Key, b139.Parent, b139.Evid, (⟨b139.Rest.Servers, b139.Rest.Ops, b139.Rest.End⟩ : Timpl_Rest)⟩ : Timpl_Event)).set v126.toNat (⟨b140.Kind, b140.Realm, (IntKind.i64.wrap ((IntKind.i64.wrap (v125 + (1 : Int))) + (1 : Int))), b140.Client, b140.Service, b140.Key, b140.Parent, b140.Evid, (⟨b140.Rest.Servers, b140.Rest.Ops, b140.Rest.End⟩ : Timpl_Rest)⟩ : Timpl_Event)).set v126.toNat (⟨b141.Kind, b141.Realm, b141.By, (IntKind.i64.wrap ((IntKind.i64.wrap ((IntKind.i64.wrap (v125 + (1 : Int))) + (1 : Int))) + (1 : Int))), b141.Service, b141.Key, b141.Parent, b141.Evid, (⟨b141.Rest.Servers, b141.Rest.Ops, b141.Rest.End⟩ : Timpl_Rest)⟩ : Timpl_Event)).set v126.toNat (⟨b142.Kind, b142.Realm, b142.By, b142.Client, (IntKind.i64.wrap ((IntKind.i64.wrap ((IntKind.i64.wrap ((IntKind.i64.wrap (v125 + (1 : Int))) + (1 : Int))) + (1 : Int))) + (1 : Int))), b142.Key, b142.Parent, b142.Evid, (⟨b142.Rest.Servers, b142.Rest.Ops, b142.Rest.End⟩ : Timpl_Rest)⟩ : Timpl_Event)).set v126.toNat (⟨b143.Kind, b143.Realm, b143.By, b143.Client, b143.Service, (IntKind.i64.wrap ((IntKind.i64.wrap ((IntKind.i64.wrap ((IntKind.i64.wrap ((IntKind.i64.wrap (v125 + (1 : Int))) + (1 : Int))) + (1 : Int))) + (1 : Int))) + (1 : Int))), b143.Parent, b143.Evid, (⟨b143.Rest.Servers, b143.Rest.Ops, b143.Rest.End⟩ : Timpl_Rest)⟩ : Timpl_Event)).set v126.toNat (⟨b144.Kind, b144.Realm, b144.By, b144.Client, b144.Service, b144.Key, (IntKind.i64.wrap ((IntKind.i64.wrap ((IntKind.i64.wrap ((IntKind.i64.wrap ((IntKind.i64.wrap ((IntKind.i64.wrap (v125 + (1 : Int))) + (1 : Int))) + (1 : Int))) + (1 : Int))) + (1 : Int))) + (1 : Int))), b144.Evid, (⟨b144.Rest.Servers, b144.Rest.Ops, b144.Rest.End⟩ : Timpl_Rest)⟩ : Timpl_Event)).set v126.toNat (⟨b145.Kind, b145.Realm, b145.By, b145.Client, b145.Service, b145.Key, b145.Parent, (IntKind.i64.wrap ((IntKind.i64.wrap ((IntKind.i64.wrap ((IntKind.i64.wrap ((IntKind.i64.wrap ((IntKind.i64.wrap ((IntKind.i64.wrap (v125 + (1 : Int))) + (1 : Int))) + (1 : Int))) + (1 : Int))) + (1 : Int))) + (1 : Int))) + (1 : Int))), (⟨b145.Rest.Servers, b145.Rest.Ops, b145.Rest.End⟩ : Timpl_Rest)⟩ : Timpl_Event)) v126).bind fun b146 => (at? (((((((((v124.set v126.toNat (⟨v125, b138.Realm, b138.By, b138.Client, b138.Service, b138.Key, b138.Parent, b138.Evid, (⟨b138.Rest.Servers, b138.Rest.Ops, b138.Rest.End⟩ : Timpl_Rest)⟩ : Timpl_Event)).set v126.toNat (⟨b139.Kind, (IntKind.i64.wrap (v125 + (1 : Int))), b139.By, b139.Client, b139.Service, b139.Key, b139.Parent, b139.Evid, (⟨b139.Rest.Servers, b139.Rest.Ops, b139.Rest.End⟩ : Timpl_Rest)⟩ : Timpl_Event)).set v126.toNat (⟨b140.Kind, b140.Realm, (IntKind.i64.wrap ((IntKind.i64.wrap (v125 + (1 : Int))) + (1 : Int))), b140.Client, b140.Service, b140.Key, b140.Parent, b140.Evid, (⟨b140.Rest.Servers, b140.Rest.Ops, b140.Rest.End⟩ : Timpl_Rest)⟩ : Timpl_Event)).set v126.toNat (⟨b141.Kind, b141.Realm, b141.By, (IntKind.i64.wrap ((IntKind.i64.wrap ((IntKind.i64.wrap (v125 + (1 : Int))) + (1 : Int))) + (1 : Int))), b141.Service, b141.Key, b141.Parent, b141.Evid, (⟨b141.Rest.Servers, b141.Rest.Ops, b141.Rest.End⟩ : Timpl_Rest)⟩ : Timpl_Event)).set v126.toNat (⟨b142.Kind, b142.Realm, b142.By, b142.Client, (IntKind.i64.wrap ((IntKind.i64.wrap ((IntKind.i64.wrap ((IntKind.i64.wrap (v125 + (1 : Int))) + (1 : Int))) + (1 : Int))) + (1 : Int))), b142.Key, b142.Parent, b142.Evid, (⟨b142.Rest.Servers, b142.Rest.Ops, b142.Rest.End⟩ : Timpl_Rest)⟩ : Timpl_Event)).set v126.toNat (⟨b143.Kind, b143.Realm, b143.By, b143.Client, b143.Service, (IntKind.i64.wrap ((IntKind.i64.wrap ((IntKind.i64.wrap ((IntKind.i64.wrap ((IntKind.i64.wrap (v125 + (1 : Int))) + (1 : Int))) + (1 : Int))) + (1 : Int))) + (1 : Int))), b143.Parent, b143.Evid, (⟨b143.Rest.Servers, b143.Rest.Ops, b143.Rest.End⟩ : Timpl_Rest)⟩ : Timpl_Event)).set v126.toNat (⟨b144.Kind, b144.Realm, b144.By, b144.Client, b144.Service, b144.Key, (IntKind.i64.wrap ((IntKind.i64.wrap ((IntKind.i64.wrap ((IntKind.i64.wrap ((IntKind.i64.wrap ((IntKind.i64.wrap (v125 + (1 : Int))) + (1 : Int))) + (1 : Int))) + (1 : Int))) + (1 : Int))) + (1 : Int))), b144.Evid, (⟨b144.Rest.Servers, b144.Rest.Ops, b144.Rest.End⟩ : Timpl_Rest)⟩ : Timpl_Event)).set v126.toNat (⟨b145.Kind, b145.Realm, b145.By, b145.Client, b145.Service, b145.Key, b145.Parent, (IntKind.i64.wrap ((IntKind.i64.wrap ((IntKind.i64.wrap ((IntKind.i64.wrap ((IntKind.i64.wrap ((IntKind.i64.wrap ((IntKind.i64.wrap (v125 + (1 : Int))) + (1 : Int))) + (1 : Int))) + (1 : Int))) + (1 : Int))) + (1 : Int))) + (1 : Int))), (⟨b145.Rest.Servers, b145.Rest.Ops, b145.Rest.End⟩ : Timpl_Rest)⟩ : Timpl_Event)).set v126.toNat (⟨b146.Kind, b146.Realm, b146.By, b146.Client, b146.Service, b146.Key, b146.Parent, b146.Evid, (⟨(IntKind.i64.wrap ((IntKind.i64.wrap ((IntKind.i64.wrap ((IntKind.i64.wrap ((IntKind.i64.wrap ((IntKind.i64.wrap ((IntKind.i64.wrap ((IntKind.i64.wrap (v125 + (1 : Int))) + (1 : Int))) + (1 : Int))) + (1 : Int))) + (1 : Int))) + (1 : Int))) + (1 : Int))) + (1 : Int))), b146.Rest.Ops, b146.Rest.End⟩ : Timpl_Rest)⟩ : Timpl_Event)) v126).bind fun b147 => (at? ((((((((((v124.set v126.toNat (⟨v125, b138.Realm, b138.By, b138.Client, b138.Service, b138.Key, b138.Parent, b138.Evid, (⟨b138.Rest.Servers, b138.Rest.Ops, b138.Rest.End⟩ : Timpl_Rest)⟩ : Timpl_Event)).set v126.toNat (⟨b139.Kind, (IntKind.i64.wrap (v125 + (1 : Int))), b139.By, b139.Client, b139.Service, b139.Key, b139.Parent, b139.Evid, (⟨b139.Rest.Servers, b139.Rest.Ops, b139.Rest.End⟩ : Timpl_Rest)⟩ : Timpl_Event)).set v126.toNat (⟨b140.Kind, b140.Realm, (IntKind.i64.wrap ((IntKind.i64.wrap (v125 + (1 : Int))) + (1 : Int))), b140.Client, b140.Service, b140.Key, b140.Parent, b140.Evid, (⟨b140.Rest.Servers, b140.Rest.Ops, b140.Rest.End⟩ : Timpl_Rest)⟩ : Timpl_Event)).set v126.toNat (⟨b141.Kind, b141.Realm, b141.By, (IntKind.i64.wrap ((IntKind.i64.wrap ((IntKind.i64.wrap (v125 + (1 : Int))) + (1 : Int))) + (1 : Int))), b141.Service, b141.Key, b141.Parent, b141.Evid, (⟨b141.Rest.Servers, b141.Rest.Ops, b141.Rest.End⟩ : Timpl_Rest)⟩ : Timpl_Event)).set v126.toNat (⟨b142.Kind, b142.Realm, b142.By, b142.Client, (IntKind.i64.wrap ((IntKind.i64.wrap ((IntKind.i64.wrap ((IntKind.i64.wrap (v125 + (1 : Int))) + (1 : Int))) + (1 : Int))) + (1 : Int))), b142.Key, b142.Parent, b142.Evid, (⟨b142.Rest.Servers, b142.Rest.Ops, b142.Rest.End⟩ : Timpl_Rest)⟩ : Timpl_Event)).set v126.toNat (⟨b143.Kind, b143.Realm, b143.By, b143.Client, b143.Service, (IntKind.i64.wrap ((IntKind.i64.wrap ((IntKind.i64.wrap ((IntKind.i64.wrap ((IntKind.i64.wrap (v125 + (1 : Int))) + (1 : Int))) + (1 : Int))) + (1 : Int))) + (1 : Int))), b143.Parent, b143.Evid, (⟨b143.Rest.Servers, b143.Rest.Ops, b143.Rest.End⟩ : Timpl_Rest)⟩ : Timpl_Event)).set v126.toNat (⟨b144.Kind, b144.Realm, b144.By, b144.Client, b144.Service, b144.Key, (IntKind.i64.wrap ((IntKind.i64.wrap ((IntKind.i64.wrap ((IntKind.i64.wrap ((IntKind.i64.wrap ((IntKind.i64.wrap (v125 + (1 : Int))) + (1 : Int))) + (1 : Int))) + (1 : Int))) + (1 : Int))) + (1 : Int))), b144.Evid, (⟨b144.Rest.Servers, b144.Rest.Ops, b144.Rest.End⟩ : Timpl_Rest)⟩ : Timpl_Event)).set v126.toNat (⟨b145.Kind, b145.Realm, b145.By, b145.Client, b145.Service, b145.Key, b145.Parent, (IntKind.i64.wrap ((IntKind.i64.wrap ((IntKind.i64.wrap ((IntKind.i64.wrap ((IntKind.i64.wrap ((IntKind.i64.wrap ((IntKind.i64.wrap (v125 + (1 : Int))) + (1 : Int))) + (1 : Int))) + (1 : Int))) + (1 : Int))) + (1 : Int))) + (1 : Int))), (⟨b145.Rest.Servers, b145.Rest.Ops, b145.Rest.End⟩ : Timpl_Rest)⟩ : Timpl_Event)).set v126.toNat (⟨b146.Kind, b146.Realm, b146.By, b146.Client, b146.Service, b146.Key, b146.Parent, b146.Evid, (⟨(IntKind.i64.wrap ((IntKind.i64.wrap ((IntKind.i64.wrap ((IntKind.i64.wrap ((IntKind.i64.wrap ((IntKind.i64.wrap ((IntKind.i64.wrap ((IntKind.i64.wrap (v125 + (1 : Int))) + (1 : Int))) + (1 : Int))) + (1 : Int))) + (1 : Int))) + (1 : Int))) + (1 : Int))) + (1 : Int))), b146.Rest.Ops, b146.Rest.End⟩ : Timpl_Rest)⟩ : Timpl_Event)).set v126.toNat (⟨b147.Kind, b147.Realm, b147.By, b147.Client, b147.Service, b147.Key, b147.Parent, b147.Evid, (⟨b147.Rest.Servers, (IntKind.i64.wrap ((IntKind.i64.wrap ((IntKind.i64.wrap ((IntKind.i64.wrap ((IntKind.i64.wrap ((IntKind.i64.wrap ((IntKind.i64.wrap ((IntKind.i64.wrap ((IntKind.i64.wrap (v125 + (1 : Int))) + (1 : Int))) + (1 : Int))) + (1 : Int))) + (1 : Int))) + (1 : Int))) + (1 : Int))) + (1 : Int))) + (1 : Int))), b147.Rest.End⟩ : Timpl_Rest)⟩ : Timpl_Event)) v126).bind fun b148 => (Flaws_markEventS.l2 k2) (((((((((((v124.set v126.toNat (⟨v125, b138.Realm, b138.By, b138.Client, b138.Service, b138.Key, b138.Parent, b138.Evid, (⟨b138.Rest.Servers, b138.Rest.Ops, b138.Rest.End⟩ : Timpl_Rest)⟩ : Timpl_Event)).set v126.toNat (⟨b139.Kind, (IntKind.i64.wrap (v125 + (1 : Int))), b139.By, b139.Client, b139.Service, b139.Key, b139.Parent, b139.Evid, (⟨b139.Rest.Servers, b139.Rest.Ops, b139.Rest.End⟩ : Timpl_Rest)⟩ : Timpl_Event)).set v126.toNat (⟨b140.Kind, b140.Realm, (IntKind.i64.wrap ((IntKind.i64.wrap (v125 + (1 : Int))) + (1 : Int))), b140.Client, b140.Service, b140.Key, b140.Parent, b140.Evid, (⟨b140.Rest.Servers, b140.Rest.Ops, b140.Rest.End⟩ : Timpl_Rest)⟩ : Timpl_Event)).set v126.toNat (⟨b141.Kind, b141.Realm, b141.By, (IntKind.i64.wrap ((IntKind.i64.wrap ((IntKind.i64.wrap (v125 + (1 : Int))) + (1 : Int))) + (1 : Int))), b141.Service, b141.Key, b141.Parent, b141.Evid, (⟨b141.Rest.Servers, b141.Rest.Ops, b141.Rest.End⟩ : Timpl_Rest)⟩ : Timpl_Event)).set v126.toNat (⟨b142.Kind, b142.Realm, b142.By, b142.Client, (IntKind.i64.wrap ((IntKind.i64.wrap ((IntKind.i64.wrap ((IntKind.i64.wrap (v125 + (1 : Int))) + (1 : Int))) + (1 : Int))) + (1 : Int))), b142.Key, b142.Parent, b142.Evid, (⟨b142.Rest.Servers, b142.Rest.Ops, b142.Rest.End⟩ : Timpl_Rest)⟩ : Timpl_Event)).set v126.toNat (⟨b143.Kind, b143.Realm, b143.By, b143.Client, b143.Service, (IntKind.i64.wrap ((IntKind.i64.wrap ((IntKind.i64.wrap ((IntKind.i64.wrap ((IntKind.i64.wrap (v125 + (1 : Int))) + (1 : Int))) + (1 : Int))) + (1 : Int))) + (1 : Int))), b143.Parent, b143.Evid, (⟨b143.Rest.Servers, b143.Rest.Ops, b143.Rest.End⟩ : Timpl_Rest)⟩ : Timpl_Event)).set v126.toNat (⟨b144.Kind, b144.Realm, b144.By, b144.Client, b144.Service, b144.Key, (IntKind.i64.wrap ((IntKind.i64.wrap ((IntKind.i64.wrap ((IntKind.i64.wrap ((IntKind.i64.wrap ((IntKind.i64.wrap (v125 + (1 : Int))) + (1 : Int))) + (1 : Int))) + (1 : Int))) + (1 : Int))) + (1 : Int))), b144.Evid, (⟨b144.Rest.Servers, b144.Rest.Ops, b144.Rest.End⟩ : Timpl_Rest)⟩ : Timpl_Event)).set v126.toNat (⟨b145.Kind, b145.Realm, b145.By, b145.Client, b145.Service, b145.Key, b145.Parent, (IntKind.i64.wrap ((IntKind.i64.wrap ((IntKind.i64.wrap ((IntKind.i64.wrap ((IntKind.i64.wrap ((IntKind.i64.wrap ((IntKind.i64.wrap (v125 + (1 : Int))) + (1 : Int))) + (1 : Int))) + (1 : Int))) + (1 : Int))) + (1 : Int))) + (1 : Int))), (⟨b145.Rest.Servers, b145.Rest.Ops, b145.Rest.End⟩ : Timpl_Rest)⟩ : Timpl_Event)).set v126.toNat (⟨b146.Kind, b146.Realm, b146.By, b146.Client, b146.Service, b146.Key, b146.Parent, b146.Evid, (⟨(IntKind.i64.wrap ((IntKind.i64.wrap ((IntKind.i64.wrap ((IntKind.i64.wrap ((IntKind.i64.wrap ((IntKind.i64.wrap ((IntKind.i64.wrap ((IntKind.i64.wrap (v125 + (1 : Int))) + (1 : Int))) + (1 : Int))) + (1 : Int))) + (1 : Int))) + (1 : Int))) + (1 : Int))) + (1 : Int))), b146.Rest.Ops, b146.Rest.End⟩ : Timpl_Rest)⟩ : Timpl_Event)).set v126.toNat (⟨b147.Kind, b147.Realm, b147.By, b147.Client, b147.Service, b147.Key, b147.Parent, b147.Evid, (⟨b147.Rest.Servers, (IntKind.i64.wrap ((IntKind.i64.wrap ((IntKind.i64.wrap ((IntKind.i64.wrap ((IntKind.i64.wrap ((IntKind.i64.wrap ((IntKind.i64.wrap ((IntKind.i64.wrap ((IntKind.i64.wrap (v125 + (1 : Int))) + (1 : Int))) + (1 : Int))) + (1 : Int))) + (1 : Int))) + (1 : Int))) + (1 : Int))) + (1 : Int))) + (1 : Int))), b147.Rest.End⟩ : Timpl_Rest)⟩ : Timpl_Event)).set v126.toNat (⟨b148.Kind, b148.Realm, b148.By, b148.Client, b148.Service, b148.Key, b148.Parent, b148.Evid, (⟨b148.Rest.Servers, b148.Rest.Ops, (IntKind.i64.wrap ((IntKind.i64.wrap ((IntKind.i64.wrap ((IntKind.i64.wrap ((IntKind.i64.wrap ((IntKind.i64.wrap ((IntKind.i64.wrap ((IntKind.i64.wrap ((IntKind.i64.wrap ((IntKind.i64.wrap (v125 + (1 : Int))) + (1 : Int))) + (1 : Int))) + (1 : Int))) + (1 : Int))) + (1 : Int))) + (1 : Int))) + (1 : Int))) + (1 : Int))) + (1 : Int)))⟩ : Timpl_Rest)⟩ : Timpl_Event)) (IntKind.i64.wrap ((IntKind.i64.wrap ((IntKind.i64.wrap ((IntKind.i64.wrap ((IntKind.i64.wrap ((IntKind.i64.wrap ((IntKind.i64.wrap ((IntKind.i64.wrap ((IntKind.i64.wrap ((IntKind.i64.wrap ((IntKind.i64.wrap (v125 + (1 : Int))) + (1 : Int))) + (1 : Int))) + (1 : Int))) + (1 : Int))) + (1 : Int))) + (1 : Int))) + (1 : Int))) + (1 : Int))) + (1 : Int))) + (1 : Int))) (IntKind.i64.wrap (v126 + (1 : Int)))) (some (v125, v124))
def Flaws_markEventS (k : Nat) (a0 : List Timpl_Event) (a1 : Int) : Option (Int × List Timpl_Event) := Flaws_markEventS.l2 k a0 a1 (0 : Int)
theorem ent28 : MG.Enters Try.prog 28 := ⟨Try.f28, Try.func28, rfl, by decide⟩
set_option maxHeartbeats 8000000 in
set_option maxRecDepth 100000 in
theorem Flaws_markEventS_gives (k : Nat) (a0 : List Timpl_Event) (a1 : Int) (r : Int × List Timpl_Event) (H : Flaws_markEventS k a0 a1 = some r) : GivesB Try.prog 28 [V.one (Cell.ow 11 (List.map eTimpl_Event a0)), V.one (cI a1)] [] [0] [V.one (cI r.1)] [] [V.one (Cell.ow 11 (List.map eTimpl_Event r.2))] := by
  refine GivesB.intro Try.func28 rfl rfl rfl rfl rfl rfl ?_
  intro F hF hm
  unfold Flaws_markEventS at H
  obtain ⟨K, hK⟩ : ∃ K, k ≤ K := ⟨k, Nat.le_refl k⟩
  refine WpC.seq ?_
  refine WpC.regionL ?_
  refine L.assign hF rfl rfl rfl ?_
  refine L.nil ?_
  refine WpC.seq ?_
  refine WpC.seq ?_
  refine WpC.regionL ?_
  refine L.assign hF rfl rfl rfl ?_
  refine L.nil ?_
  refine WpC.block ?_
  refine WpC.loopL (P := Try.prog) (fun n σ => ∃ v124 : List Timpl_Event, ∃ v125 : Int, ∃ v126 : Int, n ≤ K ∧ Flaws_markEventS.l2 n v124 v125 v126 = some r ∧ σ = mkSt [(0, MG.one (Cell.own 0)), (1, MG.one (cI v125)), (5, MG.one (cI v126))] [(0, ⟨11, List.map eTimpl_Event v124⟩)] [] 2) k ⟨_, ⟨a0, a1, (0 : Int), by omega, H, rfl⟩, Le.mk [(0, 0)] hm rfl ⟨⟨_, rfl, rfl⟩, ⟨_, rfl, rfl⟩, ⟨_, rfl, rfl⟩, trivial⟩ ⟨⟨_, rfl, rfl⟩, trivial⟩ trivial⟩ ?_
  clear H
  rintro k2 _ ⟨v124, v125, v126, hk2, H, rfl⟩
  cases k2 with
  | zero => cases H
  | succ k2 =>
    rw [Flaws_markEventS.l2] at H
    refine WpC.seq ?_
    refine WpC.seq ?_
    refine WpC.regionL ?_
    refine L.move hF rfl rfl rfl ?_
    refine L.move hF rfl rfl rfl ?_
    refine L.lenR (xs := v124) (e := eTimpl_Event) Try.underlying26 hF rfl rfl rfl rfl ?_
    refine L.bin hF rfl rfl rfl rfl rfl rfl ?_
    refine L.nil ?_
    refine WpC.cond rfl (fun hc => ?_) (fun hc => ?_)
    · replace H := condT hc H
      refine WpC.skip ?_
      refine WpC.seq ?_
      refine WpC.block ?_
      refine WpC.seq ?_
      refine WpC.regionL ?_
      refine L.move hF rfl rfl rfl ?_
      refine L.move hF rfl rfl rfl ?_
      refine L.move hF rfl rfl rfl ?_
      obtain ⟨b138, hb138, H⟩ := bindS H
      refine L.idxR (xs := v124) (e := eTimpl_Event) Try.underlying26 info135 hF rfl rfl rfl rfl rfl hb138 rfl rfl ?_
      refine L.fieldAddr Try.underlying135 rfl info3 rfl hF rfl rfl rfl rfl rfl ?_
      refine L.storeEp (xs := v124) (e := eTimpl_Event) (a' := (⟨v125, b138.Realm, b138.By, b138.Client, b138.Service, b138.Key, b138.Parent, b138.Evid, (⟨b138.Rest.Servers, b138.Rest.Ops, b138.Rest.End⟩ : Timpl_Rest)⟩ : Timpl_Event)) shape3 hF rfl rfl rfl rfl rfl rfl rfl (at?_get hb138).2 rfl rfl ?_
      refine L.nil ?_
      refine WpC.seq ?_
      refine WpC.regionL ?_
      refine L.move hF rfl rfl rfl ?_
      refine L.bin hF rfl rfl rfl rfl rfl rfl ?_
      refine L.assign hF rfl rfl rfl ?_
      refine L.nil ?_
      refine WpC.seq ?_
      refine WpC.regionL ?_
      refine L.move hF rfl rfl rfl ?_
      refine L.move hF rfl rfl rfl ?_
      refine L.move hF rfl rfl rfl ?_
      obtain ⟨b139, hb139, H⟩ := bindS H
      refine L.idxR (xs := (v124.set v126.toNat (⟨v125, b138.Realm, b138.By, b138.Client, b138.Service, b138.Key, b138.Parent, b138.Evid, (⟨b138.Rest.Servers, b138.Rest.Ops, b138.Rest.End⟩ : Timpl_Rest)⟩ : Timpl_Event))) (e := eTimpl_Event) Try.underlying26 info135 hF rfl rfl rfl rfl rfl hb139 rfl rfl ?_
      refine L.fieldAddr Try.underlying135 rfl info3 rfl hF rfl rfl rfl rfl rfl ?_
      refine L.storeEp (xs := (v124.set v126.toNat (⟨v125, b138.Realm, b138.By, b138.Client, b138.Service, b138.Key, b138.Parent, b138.Evid, (⟨b138.Rest.Servers, b138.Rest.Ops, b138.Rest.End⟩ : Timpl_Rest)⟩ : Timpl_Event))) (e := eTimpl_Event) (a' := (⟨b139.Kind, (IntKind.i64.wrap (v125 + (1 : Int))), b139.By, b139.Client, b139.Service, b139.Key, b139.Parent, b139.Evid, (⟨b139.Rest.Servers, b139.Rest.Ops, b139.Rest.End⟩ : Timpl_Rest)⟩ : Timpl_Event)) shape3 hF rfl rfl rfl rfl rfl rfl rfl (at?_get hb139).2 rfl rfl ?_
      refine L.nil ?_
      refine WpC.seq ?_
      refine WpC.regionL ?_
      refine L.move hF rfl rfl rfl ?_
      refine L.bin hF rfl rfl rfl rfl rfl rfl ?_
      refine L.assign hF rfl rfl rfl ?_
      refine L.nil ?_
      refine WpC.seq ?_
      refine WpC.regionL ?_
      refine L.move hF rfl rfl rfl ?_
      refine L.move hF rfl rfl rfl ?_
      refine L.move hF rfl rfl rfl ?_
      obtain ⟨b140, hb140, H⟩ := bindS H
      refine L.idxR (xs := ((v124.set v126.toNat (⟨v125, b138.Realm, b138.By, b138.Client, b138.Service, b138.Key, b138.Parent, b138.Evid, (⟨b138.Rest.Servers, b138.Rest.Ops, b138.Rest.End⟩ : Timpl_Rest)⟩ : Timpl_Event)).set v126.toNat (⟨b139.Kind, (IntKind.i64.wrap (v125 + (1 : Int))), b139.By, b139.Client, b139.Service, b139.Key, b139.Parent, b139.Evid, (⟨b139.Rest.Servers, b139.Rest.Ops, b139.Rest.End⟩ : Timpl_Rest)⟩ : Timpl_Event))) (e := eTimpl_Event) Try.underlying26 info135 hF rfl rfl rfl rfl rfl hb140 rfl rfl ?_
      refine L.fieldAddr Try.underlying135 rfl info3 rfl hF rfl rfl rfl rfl rfl ?_
      refine L.storeEp (xs := ((v124.set v126.toNat (⟨v125, b138.Realm, b138.By, b138.Client, b138.Service, b138.Key, b138.Parent, b138.Evid, (⟨b138.Rest.Servers, b138.Rest.Ops, b138.Rest.End⟩ : Timpl_Rest)⟩ : Timpl_Event)).set v126.toNat (⟨b139.Kind, (IntKind.i64.wrap (v125 + (1 : Int))), b139.By, b139.Client, b139.Service, b139.Key, b139.Parent, b139.Evid, (⟨b139.Rest.Servers, b139.Rest.Ops, b139.Rest.End⟩ : Timpl_Rest)⟩ : Timpl_Event))) (e := eTimpl_Event) (a' := (⟨b140.Kind, b140.Realm, (IntKind.i64.wrap ((IntKind.i64.wrap (v125 + (1 : Int))) + (1 : Int))), b140.Client, b140.Service, b140.Key, b140.Parent, b140.Evid, (⟨b140.Rest.Servers, b140.Rest.Ops, b140.Rest.End⟩ : Timpl_Rest)⟩ : Timpl_Event)) shape3 hF rfl rfl rfl rfl rfl rfl rfl (at?_get hb140).2 rfl rfl ?_
      refine L.nil ?_
      refine WpC.seq ?_
      refine WpC.regionL ?_
      refine L.move hF rfl rfl rfl ?_
      refine L.bin hF rfl rfl rfl rfl rfl rfl ?_
      refine L.assign hF rfl rfl rfl ?_
      refine L.nil ?_
      refine WpC.seq ?_
      refine WpC.regionL ?_
      refine L.move hF rfl rfl rfl ?_
      refine L.move hF rfl rfl rfl ?_
      refine L.move hF rfl rfl rfl ?_
      obtain ⟨b141, hb141, H⟩ := bindS H
      refine L.idxR (xs := (((v124.set v126.toNat (⟨v125, b138.Realm, b138.By, b138.Client, b138.Service, b138.Key, b138.Parent, b138.Evid, (⟨b138.Rest.Servers, b138.Rest.Ops, b138.Rest.End⟩ : Timpl_Rest)⟩ : Timpl_Event)).set v126.toNat (⟨b139.Kind, (IntKind.i64.wrap (v125 + (1 : Int))), b139.By, b139.Client, b139.Service, b139.Key, b139.Parent, b139.Evid, (⟨b139.Rest.Servers, b139.Rest.Ops, b139.Rest.End⟩ : Timpl_Rest)⟩ : Timpl_Event)).set v126.toNat (⟨b140.Kind, b140.Realm, (IntKind.i64.wrap ((IntKind.i64.wrap (v125 + (1 : Int))) + (1 : Int))), b140.Client, b140.Service, b140.Key, b140.Parent, b140.Evid, (⟨b140.Rest.Servers, b140.Rest.Ops, b140.Rest.End⟩ : Timpl_Rest)⟩ : Timpl_Event))) (e := eTimpl_Event) Try.underlying26 info135 hF rfl rfl rfl rfl rfl hb141 rfl rfl ?_
      refine L.fieldAddr Try.underlying135 rfl info3 rfl hF rfl rfl rfl rfl rfl ?_
      refine L.storeEp (xs := (((v124.set v126.toNat (⟨v125, b138.Realm, b138.By, b138.Client, b138.Service, b138.Key, b138.Parent, b138.Evid, (⟨b138.Rest.Servers, b138.Rest.Ops, b138.Rest.End⟩ : Timpl_Rest)⟩ : Timpl_Event)).set v126.toNat (⟨b139.Kind, (IntKind.i64.wrap (v125 + (1 : Int))), b139.By, b139.Client, b139.Service, b139.Key, b139.Parent, b139.Evid, (⟨b139.Rest.Servers, b139.Rest.Ops, b139.Rest.End⟩ : Timpl_Rest)⟩ : Timpl_Event)).set v126.toNat (⟨b140.Kind, b140.Realm, (IntKind.i64.wrap ((IntKind.i64.wrap (v125 + (1 : Int))) + (1 : Int))), b140.Client, b140.Service, b140.Key, b140.Parent, b140.Evid, (⟨b140.Rest.Servers, b140.Rest.Ops, b140.Rest.End⟩ : Timpl_Rest)⟩ : Timpl_Event))) (e := eTimpl_Event) (a' := (⟨b141.Kind, b141.Realm, b141.By, (IntKind.i64.wrap ((IntKind.i64.wrap ((IntKind.i64.wrap (v125 + (1 : Int))) + (1 : Int))) + (1 : Int))), b141.Service, b141.Key, b141.Parent, b141.Evid, (⟨b141.Rest.Servers, b141.Rest.Ops, b141.Rest.End⟩ : Timpl_Rest)⟩ : Timpl_Event)) shape3 hF rfl rfl rfl rfl rfl rfl rfl (at?_get hb141).2 rfl rfl ?_
      refine L.nil ?_
      refine WpC.seq ?_
      refine WpC.regionL ?_
      refine L.move hF rfl rfl rfl ?_
      refine L.bin hF rfl rfl rfl rfl rfl rfl ?_
      refine L.assign hF rfl rfl rfl ?_
      refine L.nil ?_
      refine WpC.seq ?_
      refine WpC.regionL ?_
      refine L.move hF rfl rfl rfl ?_
      refine L.move hF rfl rfl rfl ?_
      refine L.move hF rfl rfl rfl ?_
      obtain ⟨b142, hb142, H⟩ := bindS H
      refine L.idxR (xs := ((((v124.set v126.toNat (⟨v125, b138.Realm, b138.By, b138.Client, b138.Service, b138.Key, b138.Parent, b138.Evid, (⟨b138.Rest.Servers, b138.Rest.Ops, b138.Rest.End⟩ : Timpl_Rest)⟩ : Timpl_Event)).set v126.toNat (⟨b139.Kind, (IntKind.i64.wrap (v125 + (1 : Int))), b139.By, b139.Client, b139.Service, b139.Key, b139.Parent, b139.Evid, (⟨b139.Rest.Servers, b139.Rest.Ops, b139.Rest.End⟩ : Timpl_Rest)⟩ : Timpl_Event)).set v126.toNat (⟨b140.Kind, b140.Realm, (IntKind.i64.wrap ((IntKind.i64.wrap (v125 + (1 : Int))) + (1 : Int))), b140.Client, b140.Service, b140.Key, b140.Parent, b140.Evid, (⟨b140.Rest.Servers, b140.Rest.Ops, b140.Rest.End⟩ : Timpl_Rest)⟩ : Timpl_Event)).set v126.toNat (⟨b141.Kind, b141.Realm, b141.By, (IntKind.i64.wrap ((IntKind.i64.wrap ((IntKind.i64.wrap (v125 + (1 : Int))) + (1 : Int))) + (1 : Int))), b141.Service, b141.Key, b141.Parent, b141.Evid, (⟨b141.Rest.Servers, b141.Rest.Ops, b141.Rest.End⟩ : Timpl_Rest)⟩ : Timpl_Event))) (e := eTimpl_Event) Try.underlying26 info135 hF rfl rfl rfl rfl rfl hb142 rfl rfl ?_
      refine L.fieldAddr Try.underlying135 rfl info3 rfl hF rfl rfl rfl rfl rfl ?_
      refine L.storeEp (xs := ((((v124.set v126.toNat (⟨v125, b138.Realm, b138.By, b138.Client, b138.Service, b138.Key, b138.Parent, b138.Evid, (⟨b138.Rest.Servers, b138.Rest.Ops, b138.Rest.End⟩ : Timpl_Rest)⟩ : Timpl_Event)).set v126.toNat (⟨b139.Kind, (IntKind.i64.wrap (v125 + (1 : Int))), b139.By, b139.Client, b139.Service, b139.Key, b139.Parent, b139.Evid, (⟨b139.Rest.Servers, b139.Rest.Ops, b139.Rest.End⟩ : Timpl_Rest)⟩ : Timpl_Event)).set v126.toNat (⟨b140.Kind, b140.Realm, (IntKind.i64.wrap ((IntKind.i64.wrap (v125 + (1 : Int))) + (1 : Int))), b140.Client, b140.Service, b140.Key, b140.Parent, b140.Evid, (⟨b140.Rest.Servers, b140.Rest.Ops, b140.Rest.End⟩ : Timpl_Rest)⟩ : Timpl_Event)).set v126.toNat (⟨b141.Kind, b141.Realm, b141.By, (IntKind.i64.wrap ((IntKind.i64.wrap ((IntKind.i64.wrap (v125 + (1 : Int))) + (1 : Int))) + (1 : Int))), b141.Service, b141.Key, b141.Parent, b141.Evid, (⟨b141.Rest.Servers, b141.Rest.Ops, b141.Rest.End⟩ : Timpl_Rest)⟩ : Timpl_Event))) (e := eTimpl_Event) (a' := (⟨b142.Kind, b142.Realm, b142.By, b142.Client, (IntKind.i64.wrap ((IntKind.i64.wrap ((IntKind.i64.wrap ((IntKind.i64.wrap (v125 + (1 : Int))) + (1 : Int))) + (1 : Int))) + (1 : Int))), b142.Key, b142.Parent, b142.Evid, (⟨b142.Rest.Servers, b142.Rest.Ops, b142.Rest.End⟩ : Timpl_Rest)⟩ : Timpl_Event)) shape3 hF rfl rfl rfl rfl rfl rfl rfl (at?_get hb142).2 rfl rfl ?_
      refine L.nil ?_
      refine WpC.seq ?_
      refine WpC.regionL ?_
      refine L.move hF rfl rfl rfl ?_
      refine L.bin hF rfl rfl rfl rfl rfl rfl ?_
      refine L.assign hF rfl rfl rfl ?_
      refine L.nil ?_
      refine WpC.seq ?_
      refine WpC.regionL ?_
      refine L.move hF rfl rfl rfl ?_
      refine L.move hF rfl rfl rfl ?_
      refine L.move hF rfl rfl rfl ?_
      obtain ⟨b143, hb143, H⟩ := bindS H
      refine L.idxR (xs := (((((v124.set v126.toNat (⟨v125, b138.Realm, b138.By, b138.Client, b138.Service, b138.Key, b138.Parent, b138.Evid, (⟨b138.Rest.Servers, b138.Rest.Ops, b138.Rest.End⟩ : Timpl_Rest)⟩ : Timpl_Event)).set v126.toNat (⟨b139.Kind, (IntKind.i64.wrap (v125 + (1 : Int))), b139.By, b139.Client, b139.Service, b139.Key, b139.Parent, b139.Evid, (⟨b139.Rest.Servers, b139.Rest.Ops, b139.Rest.End⟩ : Timpl_Rest)⟩ : Timpl_Event)).set v126.toNat (⟨b140.Kind, b140.Realm, (IntKind.i64.wrap ((IntKind.i64.wrap (v125 + (1 : Int))) + (1 : Int))), b140.Client, b140.Service, b140.Key, b140.Parent, b140.Evid, (⟨b140.Rest.Servers, b140.Rest.Ops, b140.Rest.End⟩ : Timpl_Rest)⟩ : Timpl_Event)).set v126.toNat (⟨b141.Kind, b141.Realm, b141.By, (IntKind.i64.wrap ((IntKind.i64.wrap ((IntKind.i64.wrap (v125 + (1 : Int))) + (1 : Int))) + (1 : Int))), b141.Service, b141.Key, b141.Parent, b141.Evid, (⟨b141.Rest.Servers, b141.Rest.Ops, b141.Rest.End⟩ : Timpl_Rest)⟩ : Timpl_Event)).set v126.toNat (⟨b142.Kind, b142.Realm, b142.By, b142.Client, (IntKind.i64.wrap ((IntKind.i64.wrap ((IntKind.i64.wrap ((IntKind.i64.wrap (v125 + (1 : Int))) + (1 : Int))) + (1 : Int))) + (1 : Int))), b142.Key, b142.Parent, b142.Evid, (⟨b142.Rest.Servers, b142.Rest.Ops, b142.Rest.End⟩ : Timpl_Rest)⟩ : Timpl_Event))) (e := eTimpl_Event) Try.underlying26 info135 hF rfl rfl rfl rfl rfl hb143 rfl rfl ?_
      refine L.fieldAddr Try.underlying135 rfl info3 rfl hF rfl rfl rfl rfl rfl ?_
      refine L.storeEp (xs := (((((v124.set v126.toNat (⟨v125, b138.Realm, b138.By, b138.Client, b138.Service, b138.Key, b138.Parent, b138.Evid, (⟨b138.Rest.Servers, b138.Rest.Ops, b138.Rest.End⟩ : Timpl_Rest)⟩ : Timpl_Event)).set v126.toNat (⟨b139.Kind, (IntKind.i64.wrap (v125 + (1 : Int))), b139.By, b139.Client, b139.Service, b139.Key, b139.Parent, b139.Evid, (⟨b139.Rest.Servers, b139.Rest.Ops, b139.Rest.End⟩ : Timpl_Rest)⟩ : Timpl_Event)).set v126.toNat (⟨b140.Kind, b140.Realm, (IntKind.i64.wrap ((IntKind.i64.wrap (v125 + (1 : Int))) + (1 : Int))), b140.Client, b140.Service, b140.Key, b140.Parent, b140.Evid, (⟨b140.Rest.Servers, b140.Rest.Ops, b140.Rest.End⟩ : Timpl_Rest)⟩ : Timpl_Event)).set v126.toNat (⟨b141.Kind, b141.Realm, b141.By, (IntKind.i64.wrap ((IntKind.i64.wrap ((IntKind.i64.wrap (v125 + (1 : Int))) + (1 : Int))) + (1 : Int))), b141.Service, b141.Key, b141.Parent, b141.Evid, (⟨b141.Rest.Servers, b141.Rest.Ops, b141.Rest.End⟩ : Timpl_Rest)⟩ : Timpl_Event)).set v126.toNat (⟨b142.Kind, b142.Realm, b142.By, b142.Client, (IntKind.i64.wrap ((IntKind.i64.wrap ((IntKind.i64.wrap ((IntKind.i64.wrap (v125 + (1 : Int))) + (1 : Int))) + (1 : Int))) + (1 : Int))), b142.Key, b142.Parent, b142.Evid, (⟨b142.Rest.Servers, b142.Rest.Ops, b142.Rest.End⟩ : Timpl_Rest)⟩ : Timpl_Event))) (e := eTimpl_Event) (a' := (⟨b143.Kind, b143.Realm, b143.By, b143.Client, b143.Service, (IntKind.i64.wrap ((IntKind.i64.wrap ((IntKind.i64.wrap ((IntKind.i64.wrap ((IntKind.i64.wrap (v125 + (1 : Int))) + (1 : Int))) + (1 : Int))) + (1 : Int))) + (1 : Int))), b143.Parent, b143.Evid, (⟨b143.Rest.Servers, b143.Rest.Ops, b143.Rest.End⟩ : Timpl_Rest)⟩ : Timpl_Event)) shape3 hF rfl rfl rfl rfl rfl rfl rfl (at?_get hb143).2 rfl rfl ?_
      refine L.nil ?_
      refine WpC.seq ?_
      refine WpC.regionL ?_
      refine L.move hF rfl rfl rfl ?_
      refine L.bin hF rfl rfl rfl rfl rfl rfl ?_
      refine L.assign hF rfl rfl rfl ?_
      refine L.nil ?_
      refine WpC.seq ?_
      refine WpC.regionL ?_
      refine L.move hF rfl rfl rfl ?_
      refine L.move hF rfl rfl rfl ?_
      refine L.move hF rfl rfl rfl ?_
      obtain ⟨b144, hb144, H⟩ := bindS H
      refine L.idxR (xs := ((((((v124.set v126.toNat (⟨v125, b138.Realm, b138.By, b138.Client, b138.Service, b138.Key, b138.Parent, b138.Evid, (⟨b138.Rest.Servers, b138.Rest.Ops, b138.Rest.End⟩ : Timpl_Rest)⟩ : Timpl_Event)).set v126.toNat (⟨b139.Kind, (IntKind.i64.wrap (v125 + (1 : Int))), b139.By, b139.Client, b139.Service, b139.Key, b139.Parent, b139.Evid, (⟨b139.Rest.Servers, b139.Rest.Ops, b139.Rest.End⟩ : Timpl_Rest)⟩ : Timpl_Event)).set v126.toNat (⟨b140.Kind, b140.Realm, (IntKind.i64.wrap ((IntKind.i64.wrap (v125 + (1 : Int))) + (1 : Int))), b140.Client, b140.Service, b140.Key, b140.Parent, b140.Evid, (⟨b140.Rest.Servers, b140.Rest.Ops, b140.Rest.End⟩ : Timpl_Rest)⟩ : Timpl_Event)).set v126.toNat (⟨b141.Kind, b141.Realm, b141.By, (IntKind.i64.wrap ((IntKind.i64.wrap ((IntKind.i64.wrap (v125 + (1 : Int))) + (1 : Int))) + (1 : Int))), b141.Service, b141.Key, b141.Parent, b141.Evid, (⟨b141.Rest.Servers, b141.Rest.Ops, b141.Rest.End⟩ : Timpl_Rest)⟩ : Timpl_Event)).set v126.toNat (⟨b142.Kind, b142.Realm, b142.By, b142.Client, (IntKind.i64.wrap ((IntKind.i64.wrap ((IntKind.i64.wrap ((IntKind.i64.wrap (v125 + (1 : Int))) + (1 : Int))) + (1 : Int))) + (1 : Int))), b142.Key, b142.Parent, b142.Evid, (⟨b142.Rest.Servers, b142.Rest.Ops, b142.Rest.End⟩ : Timpl_Rest)⟩ : Timpl_Event)).set v126.toNat (⟨b143.Kind, b143.Realm, b143.By, b143.Client, b143.Service, (IntKind.i64.wrap ((IntKind.i64.wrap ((IntKind.i64.wrap ((IntKind.i64.wrap ((IntKind.i64.wrap (v125 + (1 : Int))) + (1 : Int))) + (1 : Int))) + (1 : Int))) + (1 : Int))), b143.Parent, b143.Evid, (⟨b143.Rest.Servers, b143.Rest.Ops, b143.Rest.End⟩ : Timpl_Rest)⟩ : Timpl_Event))) (e := eTimpl_Event) Try.underlying26 info135 hF rfl rfl rfl rfl rfl hb144 rfl rfl ?_
      refine L.fieldAddr Try.underlying135 rfl info3 rfl hF rfl rfl rfl rfl rfl ?_
      refine L.storeEp (xs := ((((((v124.set v126.toNat (⟨v125, b138.Realm, b138.By, b138.Client, b138.Service, b138.Key, b138.Parent, b138.Evid, (⟨b138.Rest.Servers, b138.Rest.Ops, b138.Rest.End⟩ : Timpl_Rest)⟩ : Timpl_Event)).set v126.toNat (⟨b139.Kind, (IntKind.i64.wrap (v125 + (1 : Int))), b139.By, b139.Client, b139.Service, b139.Key, b139.Parent, b139.Evid, (⟨b139.Rest.Servers, b139.Rest.Ops, b139.Rest.End⟩ : Timpl_Rest)⟩ : Timpl_Event)).set v126.toNat (⟨b140.Kind, b140.Realm, (IntKind.i64.wrap ((IntKind.i64.wrap (v125 + (1 : Int))) + (1 : Int))), b140.Client, b140.Service, b140.Key, b140.Parent, b140.Evid, (⟨b140.Rest.Servers, b140.Rest.Ops, b140.Rest.End⟩ : Timpl_Rest)⟩ : Timpl_Event)).set v126.toNat (⟨b141.Kind, b141.Realm, b141.By, (IntKind.i64.wrap ((IntKind.i64.wrap ((IntKind.i64.wrap (v125 + (1 : Int))) + (1 : Int))) + (1 : Int))), b141.Service, b141.Key, b141.Parent, b141.Evid, (⟨b141.Rest.Servers, b141.Rest.Ops, b141.Rest.End⟩ : Timpl_Rest)⟩ : Timpl_Event)).set v126.toNat (⟨b142.Kind, b142.Realm, b142.By, b142.Client, (IntKind.i64.wrap ((IntKind.i64.wrap ((IntKind.i64.wrap ((IntKind.i64.wrap (v125 + (1 : Int))) + (1 : Int))) + (1 : Int))) + (1 : Int))), b142.Key, b142.Parent, b142.Evid, (⟨b142.Rest.Servers, b142.Rest.Ops, b142.Rest.End⟩ : Timpl_Rest)⟩ : Timpl_Event)).set v126.toNat (⟨b143.Kind, b143.Realm, b143.By, b143.Client, b143.Service, (IntKind.i64.wrap ((IntKind.i64.wrap ((IntKind.i64.wrap ((IntKind.i64.wrap ((IntKind.i64.wrap (v125 + (1 : Int))) + (1 : Int))) + (1 : Int))) + (1 : Int))) + (1 : Int))), b143.Parent, b143.Evid, (⟨b143.Rest.Servers, b143.Rest.Ops, b143.Rest.End⟩ : Timpl_Rest)⟩ : Timpl_Event))) (e := eTimpl_Event) (a' := (⟨b144.Kind, b144.Realm, b144.By, b144.Client, b144.Service, b144.Key, (IntKind.i64.wrap ((IntKind.i64.wrap ((IntKind.i64.wrap ((IntKind.i64.wrap ((IntKind.i64.wrap ((IntKind.i64.wrap (v125 + (1 : Int))) + (1 : Int))) + (1 : Int))) + (1 : Int))) + (1 : Int))) + (1 : Int))), b144.Evid, (⟨b144.Rest.Servers, b144.Rest.Ops, b144.Rest.End⟩ : Timpl_Rest)⟩ : Timpl_Event)) shape3 hF rfl rfl rfl rfl rfl rfl rfl (at?_get hb144).2 rfl rfl ?_
      refine L.nil ?_
      refine WpC.seq ?_
      refine WpC.regionL ?_
      refine L.move hF rfl rfl rfl ?_
      refine L.bin hF rfl rfl rfl rfl rfl rfl ?_
      refine L.assign hF rfl rfl rfl ?_
      refine L.nil ?_
      refine WpC.seq ?_
      refine WpC.regionL ?_
      refine L.move hF rfl rfl rfl ?_
      refine L.move hF rfl rfl rfl ?_
      refine L.move hF rfl rfl rfl ?_
      obtain ⟨b145, hb145, H⟩ := bindS H
      refine L.idxR (xs := (((((((v124.set v126.toNat (⟨v125, b138.Realm, b138.By, b138.Client, b138.Service, b138.Key, b138.Parent, b138.Evid, (⟨b138.Rest.Servers, b138.Rest.Ops, b138.Rest.End⟩ : Timpl_Rest)⟩ : Timpl_Event)).set v126.toNat (⟨b139.Kind, (IntKind.i64.wrap (v125 + (1 : Int))), b139.By, b139.Client, b139.Service, b139.Key, b139.Parent, b139.Evid, (⟨b139.Rest.Servers, b139.Rest.Ops, b139.Rest.End⟩ : Timpl_Rest)⟩ : Timpl_Event)).set v126.toNat (⟨b140.Kind, b140.Realm, (IntKind.i64.wrap ((IntKind.i64.wrap (v125 + (1 : Int))) + (1 : Int))), b140.Client, b140.Service, b140.Key, b140.Parent, b140.Evid, (⟨b140.Rest.Servers, b140.Rest.Ops, b140.Rest.End⟩ : Timpl_Rest)⟩ : Timpl_Event)).set v126.toNat (⟨b141.Kind, b141.Realm, b141.By, (IntKind.i64.wrap ((IntKind.i64.wrap ((IntKind.i64.wrap (v125 + (1 : Int))) + (1 : Int))) + (1 : Int))), b141.Service, b141.Key, b141.Parent, b141.Evid, (⟨b141.Rest.Servers, b141.Rest.Ops, b141.Rest.End⟩ : Timpl_Rest)⟩ : Timpl_Event)).set v126.toNat (⟨b142.Kind, b142.Realm, b142.By, b142.Client, (IntKind.i64.wrap ((IntKind.i64.wrap ((IntKind.i64.wrap ((IntKind.i64.wrap (v125 + (1 : Int))) + (1 : Int))) + (1 : Int))) + (1 : Int))), b142.Key, b142.Parent, b142.Evid, (⟨b142.Rest.Servers, b142.Rest.Ops, b142.Rest.End⟩ : Timpl_Rest)⟩ : Timpl_Event)).set v126.toNat (⟨b143.Kind, b143.Realm, b143.By, b143.Client, b143.Service, (IntKind.i64.wrap ((IntKind.i64.wrap ((IntKind.i64.wrap ((IntKind.i64.wrap ((IntKind.i64.wrap (v125 + (1 : Int))) + (1 : Int))) + (1 : Int))) + (1 : Int))) + (1 : Int))), b143.Parent, b143.Evid, (⟨b143.Rest.Servers, b143.Rest.Ops, b143.Rest.End⟩ : Timpl_Rest)⟩ : Timpl_Event)).set v126.toNat (⟨b144.Kind, b144.Realm, b144.By, b144.Client, b144.Service, b144.Key, (IntKind.i64.wrap ((IntKind.i64.wrap ((IntKind.i64.wrap ((IntKind.i64.wrap ((IntKind.i64.wrap ((IntKind.i64.wrap (v125 + (1 : Int))) + (1 : Int))) + (1 : Int))) + (1 : Int))) + (1 : Int))) + (1 : Int))), b144.Evid, (⟨b144.Rest.Servers, b144.Rest.Ops, b144.Rest.End⟩ : Timpl_Rest)⟩ : Timpl_Event))) (e := eTimpl_Event) Try.underlying26 info135 hF rfl rfl rfl rfl rfl hb145 rfl rfl ?_
      refine L.fieldAddr Try.underlying135 rfl info3 rfl hF rfl rfl rfl rfl rfl ?_
      refine L.storeEp (xs := (((((((v124.set v126.toNat (⟨v125, b138.Realm, b138.By, b138.Client, b138.Service, b138.Key, b138.Parent, b138.Evid, (⟨b138.Rest.Servers, b138.Rest.Ops, b138.Rest.End⟩ : Timpl_Rest)⟩ : Timpl_Event)).set v126.toNat (⟨b139.Kind, (IntKind.i64.wrap (v125 + (1 : Int))), b139.By, b139.Client, b139.Service, b139.Key, b139.Parent, b139.Evid, (⟨b139.Rest.Servers, b139.Rest.Ops, b139.Rest.End⟩ : Timpl_Rest)⟩ : Timpl_Event)).set v126.toNat (⟨b140.Kind, b140.Realm, (IntKind.i64.wrap ((IntKind.i64.wrap (v125 + (1 : Int))) + (1 : Int))), b140.Client, b140.Service, b140.Key, b140.Parent, b140.Evid, (⟨b140.Rest.Servers, b140.Rest.Ops, b140.Rest.End⟩ : Timpl_Rest)⟩ : Timpl_Event)).set v126.toNat (⟨b141.Kind, b141.Realm, b141.By, (IntKind.i64.wrap ((IntKind.i64.wrap ((IntKind.i64.wrap (v125 + (1 : Int))) + (1 : Int))) + (1 : Int))), b141.Service, b141.Key, b141.Parent, b141.Evid, (⟨b141.Rest.Servers, b141.Rest.Ops, b141.Rest.End⟩ : Timpl_Rest)⟩ : Timpl_Event)).set v126.toNat (⟨b142.Kind, b142.Realm, b142.By, b142.Client, (IntKind.i64.wrap ((IntKind.i64.wrap ((IntKind.i64.wrap ((IntKind.i64.wrap (v125 + (1 : Int))) + (1 : Int))) + (1 : Int))) + (1 : Int))), b142.Key, b142.Parent, b142.Evid, (⟨b142.Rest.Servers, b142.Rest.Ops, b142.Rest.End⟩ : Timpl_Rest)⟩ : Timpl_Event)).set v126.toNat (⟨b143.Kind, b143.Realm, b143.By, b143.Client, b143.Service, (IntKind.i64.wrap ((IntKind.i64.wrap ((IntKind.i64.wrap ((IntKind.i64.wrap ((IntKind.i64.wrap (v125 + (1 : Int))) + (1 : Int))) + (1 : Int))) + (1 : Int))) + (1 : Int))), b143.Parent, b143.Evid, (⟨b143.Rest.Servers, b143.Rest.Ops, b143.Rest.End⟩ : Timpl_Rest)⟩ : Timpl_Event)).set v126.toNat (⟨b144.Kind, b144.Realm, b144.By, b144.Client, b144.Service, b144.Key, (IntKind.i64.wrap ((IntKind.i64.wrap ((IntKind.i64.wrap ((IntKind.i64.wrap ((IntKind.i64.wrap ((IntKind.i64.wrap (v125 + (1 : Int))) + (1 : Int))) + (1 : Int))) + (1 : Int))) + (1 : Int))) + (1 : Int))), b144.Evid, (⟨b144.Rest.Servers, b144.Rest.Ops, b144.Rest.End⟩ : Timpl_Rest)⟩ : Timpl_Event))) (e := eTimpl_Event) (a' := (⟨b145.Kind, b145.Realm, b145.By, b145.Client, b145.Service, b145.Key, b145.Parent, (IntKind.i64.wrap ((IntKind.i64.wrap ((IntKind.i64.wrap ((IntKind.i64.wrap ((IntKind.i64.wrap ((IntKind.i64.wrap ((IntKind.i64.wrap (v125 + (1 : Int))) + (1 : Int))) + (1 : Int))) + (1 : Int))) + (1 : Int))) + (1 : Int))) + (1 : Int))), (⟨b145.Rest.Servers, b145.Rest.Ops, b145.Rest.End⟩ : Timpl_Rest)⟩ : Timpl_Event)) shape3 hF rfl rfl rfl rfl rfl rfl rfl (at?_get hb145).2 rfl rfl ?_
      refine L.nil ?_
      refine WpC.seq ?_
      refine WpC.regionL ?_
      refine L.move hF rfl rfl rfl ?_
      refine L.bin hF rfl rfl rfl rfl rfl rfl ?_
      refine L.assign hF rfl rfl rfl ?_
      refine L.nil ?_
      refine WpC.seq ?_
      refine WpC.regionL ?_
      refine L.move hF rfl rfl rfl ?_
      refine L.move hF rfl rfl rfl ?_
      refine L.move hF rfl rfl rfl ?_
      obtain ⟨b146, hb146, H⟩ := bindS H
      refine L.idxR (xs := ((((((((v124.set v126.toNat (⟨v125, b138.Realm, b138.By, b138.Client, b138.Service, b138.Key, b138.Parent, b138.Evid, (⟨b138.Rest.Servers, b138.Rest.Ops, b138.Rest.End⟩ : Timpl_Rest)⟩ : Timpl_Event)).set v126.toNat (⟨b139.Kind, (IntKind.i64.wrap (v125 + (1 : Int))), b139.By, b139.Client, b139.Service, b139.Key, b139.Parent, b139.Evid, (⟨b139.Rest.Servers, b139.Rest.Ops, b139.Rest.End⟩ : Timpl_Rest)⟩ : Timpl_Event)).set v126.toNat (⟨b140.Kind, b140.Realm, (IntKind.i64.wrap ((IntKind.i64.wrap (v125 + (1 : Int))) + (1 : Int))), b140.Client, b140.Service, b140.Key, b140.Parent, b140.Evid, (⟨b140.Rest.Servers, b140.Rest.Ops, b140.Rest.End⟩ : Timpl_Rest)⟩ : Timpl_Event)).set v126.toNat (⟨b141.Kind, b141.Realm, b141.By, (IntKind.i64.wrap ((IntKind.i64.wrap ((IntKind.i64.wrap (v125 + (1 : Int))) + (1 : Int))) + (1 : Int))), b141.Service, b141.Key, b141.Parent, b141.Evid, (⟨b141.Rest.Servers, b141.Rest.Ops, b141.Rest.End⟩ : Timpl_Rest)⟩ : Timpl_Event)).set v126.toNat (⟨b142.Kind, b142.Realm, b142.By, b142.Client, (IntKind.i64.wrap ((IntKind.i64.wrap ((IntKind.i64.wrap ((IntKind.i64.wrap (v125 + (1 : Int))) + (1 : Int))) + (1 : Int))) + (1 : Int))), b142.Key, b142.Parent, b142.Evid, (⟨b142.Rest.Servers, b142.Rest.Ops, b142.Rest.End⟩ : Timpl_Rest)⟩ : Timpl_Event)).set v126.toNat (⟨b143.Kind, b143.Realm, b143.By, b143.Client, b143.Service, (IntKind.i64.wrap ((IntKind.i64.wrap ((IntKind.i64.wrap ((IntKind.i64.wrap ((IntKind.i64.wrap (v125 + (1 : Int))) + (1 : Int))) + (1 : Int))) + (1 : Int))) + (1 : Int))), b143.Parent, b143.Evid, (⟨b143.Rest.Servers, b143.Rest.Ops, b143.Rest.End⟩ : Timpl_Rest)⟩ : Timpl_Event)).set v126.toNat (⟨b144.Kind, b144.Realm, b144.By, b144.Client, b144.Service, b144.Key, (IntKind.i64.wrap ((IntKind.i64.wrap ((IntKind.i64.wrap ((IntKind.i64.wrap ((IntKind.i64.wrap ((IntKind.i64.wrap (v125 + (1 : Int))) + (1 : Int))) + (1 : Int))) + (1 : Int))) + (1 : Int))) + (1 : Int))), b144.Evid, (⟨b144.Rest.Servers, b144.Rest.Ops, b144.Rest.End⟩ : Timpl_Rest)⟩ : Timpl_Event)).set v126.toNat (⟨b145.Kind, b145.Realm, b145.By, b145.Client, b145.Service, b145.Key, b145.Parent, (IntKind.i64.wrap ((IntKind.i64.wrap ((IntKind.i64.wrap ((IntKind.i64.wrap ((IntKind.i64.wrap ((IntKind.i64.wrap ((IntKind.i64.wrap (v125 + (1 : Int))) + (1 : Int))) + (1 : Int))) + (1 : Int))) + (1 : Int))) + (1 : Int))) + (1 : Int))), (⟨b145.Rest.Servers, b145.Rest.Ops, b145.Rest.End⟩ : Timpl_Rest)⟩ : Timpl_Event))) (e := eTimpl_Event) Try.underlying26 info135 hF rfl rfl rfl rfl rfl hb146 rfl rfl ?_
      refine L.fieldAddr Try.underlying135 rfl info74 rfl hF rfl rfl rfl rfl rfl ?_
      refine L.fieldAddr Try.underlying74 rfl info3 rfl hF rfl rfl rfl rfl rfl ?_
      refine L.storeEp (xs := ((((((((v124.set v126.toNat (⟨v125, b138.Realm, b138.By, b138.Client, b138.Service, b138.Key, b138.Parent, b138.Evid, (⟨b138.Rest.Servers, b138.Rest.Ops, b138.Rest.End⟩ : Timpl_Rest)⟩ : Timpl_Event)).set v126.toNat (⟨b139.Kind, (IntKind.i64.wrap (v125 + (1 : Int))), b139.By, b139.Client, b139.Service, b139.Key, b139.Parent, b139.Evid, (⟨b139.Rest.Servers, b139.Rest.Ops, b139.Rest.End⟩ : Timpl_Rest)⟩ : Timpl_Event)).set v126.toNat (⟨b140.Kind, b140.Realm, (IntKind.i64.wrap ((IntKind.i64.wrap (v125 + (1 : Int))) + (1 : Int))), b140.Client, b140.Service, b140.Key, b140.Parent, b140.Evid, (⟨b140.Rest.Servers, b140.Rest.Ops, b140.Rest.End⟩ : Timpl_Rest)⟩ : Timpl_Event)).set v126.toNat (⟨b141.Kind, b141.Realm, b141.By, (IntKind.i64.wrap ((IntKind.i64.wrap ((IntKind.i64.wrap (v125 + (1 : Int))) + (1 : Int))) + (1 : Int))), b141.Service, b141.Key, b141.Parent, b141.Evid, (⟨b141.Rest.Servers, b141.Rest.Ops, b141.Rest.End⟩ : Timpl_Rest)⟩ : Timpl_Event)).set v126.toNat (⟨b142.Kind, b142.Realm, b142.By, b142.Client, (IntKind.i64.wrap ((IntKind.i64.wrap ((IntKind.i64.wrap ((IntKind.i64.wrap (v125 + (1 : Int))) + (1 : Int))) + (1 : Int))) + (1 : Int))), b142.Key, b142.Parent, b142.Evid, (⟨b142.Rest.Servers, b142.Rest.Ops, b142.Rest.End⟩ : Timpl_Rest)⟩ : Timpl_Event)).set v126.toNat (⟨b143.Kind, b143.Realm, b143.By, b143.Client, b143.Service, (IntKind.i64.wrap ((IntKind.i64.wrap ((IntKind.i64.wrap ((IntKind.i64.wrap ((IntKind.i64.wrap (v125 + (1 : Int))) + (1 : Int))) + (1 : Int))) + (1 : Int))) + (1 : Int))), b143.Parent, b143.Evid, (⟨b143.Rest.Servers, b143.Rest.Ops, b143.Rest.End⟩ : Timpl_Rest)⟩ : Timpl_Event)).set v126.toNat (⟨b144.Kind, b144.Realm, b144.By, b144.Client, b144.Service, b144.Key, (IntKind.i64.wrap ((IntKind.i64.wrap ((IntKind.i64.wrap ((IntKind.i64.wrap ((IntKind.i64.wrap ((IntKind.i64.wrap (v125 + (1 : Int))) + (1 : Int))) + (1 : Int))) + (1 : Int))) + (1 : Int))) + (1 : Int))), b144.Evid, (⟨b144.Rest.Servers, b144.Rest.Ops, b144.Rest.End⟩ : Timpl_Rest)⟩ : Timpl_Event)).set v126.toNat (⟨b145.Kind, b145.Realm, b145.By, b145.Client, b145.Service, b145.Key, b145.Parent, (IntKind.i64.wrap ((IntKind.i64.wrap ((IntKind.i64.wrap ((IntKind.i64.wrap ((IntKind.i64.wrap ((IntKind.i64.wrap ((IntKind.i64.wrap (v125 + (1 : Int))) + (1 : Int))) + (1 : Int))) + (1 : Int))) + (1 : Int))) + (1 : Int))) + (1 : Int))), (⟨b145.Rest.Servers, b145.Rest.Ops, b145.Rest.End⟩ : Timpl_Rest)⟩ : Timpl_Event))) (e := eTimpl_Event) (a' := (⟨b146.Kind, b146.Realm, b146.By, b146.Client, b146.Service, b146.Key, b146.Parent, b146.Evid, (⟨(IntKind.i64.wrap ((IntKind.i64.wrap ((IntKind.i64.wrap ((IntKind.i64.wrap ((IntKind.i64.wrap ((IntKind.i64.wrap ((IntKind.i64.wrap ((IntKind.i64.wrap (v125 + (1 : Int))) + (1 : Int))) + (1 : Int))) + (1 : Int))) + (1 : Int))) + (1 : Int))) + (1 : Int))) + (1 : Int))), b146.Rest.Ops, b146.Rest.End⟩ : Timpl_Rest)⟩ : Timpl_Event)) shape3 hF rfl rfl rfl rfl rfl rfl rfl (at?_get hb146).2 rfl rfl ?_
      refine L.nil ?_
      refine WpC.seq ?_
      refine WpC.regionL ?_
      refine L.move hF rfl rfl rfl ?_
      refine L.bin hF rfl rfl rfl rfl rfl rfl ?_
      refine L.assign hF rfl rfl rfl ?_
      refine L.nil ?_
      refine WpC.seq ?_
      refine WpC.regionL ?_
      refine L.move hF rfl rfl rfl ?_
      refine L.move hF rfl rfl rfl ?_
      refine L.move hF rfl rfl rfl ?_
      obtain ⟨b147, hb147, H⟩ := bindS H
      refine L.idxR (xs := (((((((((v124.set v126.toNat (⟨v125, b138.Realm, b138.By, b138.Client, b138.Service, b138.Key, b138.Parent, b138.Evid, (⟨b138.Rest.Servers, b138.Rest.Ops, b138.Rest.End⟩ : Timpl_Rest)⟩ : Timpl_Event)).set v126.toNat (⟨b139.Kind, (IntKind.i64.wrap (v125 + (1 : Int))), b139.By, b139.Client, b139.Service, b139.Key, b139.Parent, b139.Evid, (⟨b139.Rest.Servers, b139.Rest.Ops, b139.Rest.End⟩ : Timpl_Rest)⟩ : Timpl_Event)).set v126.toNat (⟨b140.Kind, b140.Realm, (IntKind.i64.wrap ((IntKind.i64.wrap (v125 + (1 : Int))) + (1 : Int))), b140.Client, b140.Service, b140.Key, b140.Parent, b140.Evid, (⟨b140.Rest.Servers, b140.Rest.Ops, b140.Rest.End⟩ : Timpl_Rest)⟩ : Timpl_Event)).set v126.toNat (⟨b141.Kind, b141.Realm, b141.By, (IntKind.i64.wrap ((IntKind.i64.wrap ((IntKind.i64.wrap (v125 + (1 : Int))) + (1 : Int))) + (1 : Int))), b141.Service, b141.Key, b141.Parent, b141.Evid, (⟨b141.Rest.Servers, b141.Rest.Ops, b141.Rest.End⟩ : Timpl_Rest)⟩ : Timpl_Event)).set v126.toNat (⟨b142.Kind, b142.Realm, b142.By, b142.Client, (IntKind.i64.wrap ((IntKind.i64.wrap ((IntKind.i64.wrap ((IntKind.i64.wrap (v125 + (1 : Int))) + (1 : Int))) + (1 : Int))) + (1 : Int))), b142.Key, b142.Parent, b142.Evid, (⟨b142.Rest.Servers, b142.Rest.Ops, b142.Rest.End⟩ : Timpl_Rest)⟩ : Timpl_Event)).set v126.toNat (⟨b143.Kind, b143.Realm, b143.By, b143.Client, b143.Service, (IntKind.i64.wrap ((IntKind.i64.wrap ((IntKind.i64.wrap ((IntKind.i64.wrap ((IntKind.i64.wrap (v125 + (1 : Int))) + (1 : Int))) + (1 : Int))) + (1 : Int))) + (1 : Int))), b143.Parent, b143.Evid, (⟨b143.Rest.Servers, b143.Rest.Ops, b143.Rest.End⟩ : Timpl_Rest)⟩ : Timpl_Event)).set v126.toNat (⟨b144.Kind, b144.Realm, b144.By, b144.Client, b144.Service, b144.Key, (IntKind.i64.wrap ((IntKind.i64.wrap ((IntKind.i64.wrap ((IntKind.i64.wrap ((IntKind.i64.wrap ((IntKind.i64.wrap (v125 + (1 : Int))) + (1 : Int))) + (1 : Int))) + (1 : Int))) + (1 : Int))) + (1 : Int))), b144.Evid, (⟨b144.Rest.Servers, b144.Rest.Ops, b144.Rest.End⟩ : Timpl_Rest)⟩ : Timpl_Event)).set v126.toNat (⟨b145.Kind, b145.Realm, b145.By, b145.Client, b145.Service, b145.Key, b145.Parent, (IntKind.i64.wrap ((IntKind.i64.wrap ((IntKind.i64.wrap ((IntKind.i64.wrap ((IntKind.i64.wrap ((IntKind.i64.wrap ((IntKind.i64.wrap (v125 + (1 : Int))) + (1 : Int))) + (1 : Int))) + (1 : Int))) + (1 : Int))) + (1 : Int))) + (1 : Int))), (⟨b145.Rest.Servers, b145.Rest.Ops, b145.Rest.End⟩ : Timpl_Rest)⟩ : Timpl_Event)).set v126.toNat (⟨b146.Kind, b146.Realm, b146.By, b146.Client, b146.Service, b146.Key, b146.Parent, b146.Evid, (⟨(IntKind.i64.wrap ((IntKind.i64.wrap ((IntKind.i64.wrap ((IntKind.i64.wrap ((IntKind.i64.wrap ((IntKind.i64.wrap ((IntKind.i64.wrap ((IntKind.i64.wrap (v125 + (1 : Int))) + (1 : Int))) + (1 : Int))) + (1 : Int))) + (1 : Int))) + (1 : Int))) + (1 : Int))) + (1 : Int))), b146.Rest.Ops, b146.Rest.End⟩ : Timpl_Rest)⟩ : Timpl_Event))) (e := eTimpl_Event) Try.underlying26 info135 hF rfl rfl rfl rfl rfl hb147 rfl rfl ?_
      refine L.fieldAddr Try.underlying135 rfl info74 rfl hF rfl rfl rfl rfl rfl ?_
      refine L.fieldAddr Try.underlying74 rfl info3 rfl hF rfl rfl rfl rfl rfl ?_
      refine L.storeEp (xs := (((((((((v124.set v126.toNat (⟨v125, b138.Realm, b138.By, b138.Client, b138.Service, b138.Key, b138.Parent, b138.Evid, (⟨b138.Rest.Servers, b138.Rest.Ops, b138.Rest.End⟩ : Timpl_Rest)⟩ : Timpl_Event)).set v126.toNat (⟨b139.Kind, (IntKind.i64.wrap (v125 + (1 : Int))), b139.By, b139.Client, b139.Service, b139.Key, b139.Parent, b139.Evid, (⟨b139.Rest.Servers, b139.Rest.Ops, b139.Rest.End⟩ : Timpl_Rest)⟩ : Timpl_Event)).set v126.toNat (⟨b140.Kind, b140.Realm, (IntKind.i64.wrap ((IntKind.i64.wrap (v125 + (1 : Int))) + (1 : Int))), b140.Client, b140.Service, b140.Key, b140.Parent, b140.Evid, (⟨b140.Rest.Servers, b140.Rest.Ops, b140.Rest.End⟩ : Timpl_Rest)⟩ : Timpl_Event)).set v126.toNat (⟨b141.Kind, b141.Realm, b141.By, (IntKind.i64.wrap ((IntKind.i64.wrap ((IntKind.i64.wrap (v125 + (1 : Int))) + (1 : Int))) + (1 : Int))), b141.Service, b141.Key, b141.Parent, b141.Evid, (⟨b141.Rest.Servers, b141.Rest.Ops, b141.Rest.End⟩ : Timpl_Rest)⟩ : Timpl_Event)).set v126.toNat (⟨b142.Kind, b142.Realm, b142.By, b142.Client, (IntKind.i64.wrap ((IntKind.i64.wrap ((IntKind.i64.wrap ((IntKind.i64.wrap (v125 + (1 : Int))) + (1 : Int))) + (1 : Int))) + (1 : Int))), b142.Key, b142.Parent, b142.Evid, (⟨b142.Rest.Servers, b142.Rest.Ops, b142.Rest.End⟩ : Timpl_Rest)⟩ : Timpl_Event)).set v126.toNat (⟨b143.Kind, b143.Realm, b143.By, b143.Client, b143.Service, (IntKind.i64.wrap ((IntKind.i64.wrap ((IntKind.i64.wrap ((IntKind.i64.wrap ((IntKind.i64.wrap (v125 + (1 : Int))) + (1 : Int))) + (1 : Int))) + (1 : Int))) + (1 : Int))), b143.Parent, b143.Evid, (⟨b143.Rest.Servers, b143.Rest.Ops, b143.Rest.End⟩ : Timpl_Rest)⟩ : Timpl_Event)).set v126.toNat (⟨b144.Kind, b144.Realm, b144.By, b144.Client, b144.Service, b144.Key, (IntKind.i64.wrap ((IntKind.i64.wrap ((IntKind.i64.wrap ((IntKind.i64.wrap ((IntKind.i64.wrap ((IntKind.i64.wrap (v125 + (1 : Int))) + (1 : Int))) + (1 : Int))) + (1 : Int))) + (1 : Int))) + (1 : Int))), b144.Evid, (⟨b144.Rest.Servers, b144.Rest.Ops, b144.Rest.End⟩ : Timpl_Rest)⟩ : Timpl_Event)).set v126.toNat (⟨b145.Kind, b145.Realm, b145.By, b145.Client, b145.Service, b145.Key, b145.Parent, (IntKind.i64.wrap ((IntKind.i64.wrap ((IntKind.i64.wrap ((IntKind.i64.wrap ((IntKind.i64.wrap ((IntKind.i64.wrap ((IntKind.i64.wrap (v125 + (1 : Int))) + (1 : Int))) + (1 : Int))) + (1 : Int))) + (1 : Int))) + (1 : Int))) + (1 : Int))), (⟨b145.Rest.Servers, b145.Rest.Ops, b145.Rest.End⟩ : Timpl_Rest)⟩ : Timpl_Event)).set v126.toNat (⟨b146.Kind, b146.Realm, b146.By, b146.Client, b146.Service, b146.Key, b146.Parent, b146.Evid, (⟨(IntKind.i64.wrap ((IntKind.i64.wrap ((IntKind.i64.wrap ((IntKind.i64.wrap ((IntKind.i64.wrap ((IntKind.i64.wrap ((IntKind.i64.wrap ((IntKind.i64.wrap (v125 + (1 : Int))) + (1 : Int))) + (1 : Int))) + (1 : Int))) + (1 : Int))) + (1 : Int))) + (1 : Int))) + (1 : Int))), b146.Rest.Ops, b146.Rest.End⟩ : Timpl_Rest)⟩ : Timpl_Event))) (e := eTimpl_Event) (a' := (⟨b147.Kind, b147.Realm, b147.By, b147.Client, b147.Service, b147.Key, b147.Parent, b147.Evid, (⟨b147.Rest.Servers, (IntKind.i64.wrap ((IntKind.i64.wrap ((IntKind.i64.wrap ((IntKind.i64.wrap ((IntKind.i64.wrap ((IntKind.i64.wrap ((IntKind.i64.wrap ((IntKind.i64.wrap ((IntKind.i64.wrap (v125 + (1 : Int))) + (1 : Int))) + (1 : Int))) + (1 : Int))) + (1 : Int))) + (1 : Int))) + (1 : Int))) + (1 : Int))) + (1 : Int))), b147.Rest.End⟩ : Timpl_Rest)⟩ : Timpl_Event)) shape3 hF rfl rfl rfl rfl rfl rfl rfl (at?_get hb147).2 rfl rfl ?_
      refine L.nil ?_
      refine WpC.seq ?_
      refine WpC.regionL ?_
      refine L.move hF rfl rfl rfl ?_
      refine L.bin hF rfl rfl rfl rfl rfl rfl ?_
      refine L.assign hF rfl rfl rfl ?_
      refine L.nil ?_
      refine WpC.seq ?_
      refine WpC.regionL ?_
      refine L.move hF rfl rfl rfl ?_
      refine L.move hF rfl rfl rfl ?_
      refine L.move hF rfl rfl rfl ?_
      obtain ⟨b148, hb148, H⟩ := bindS H
      refine L.idxR (xs := ((((((((((v124.set v126.toNat (⟨v125, b138.Realm, b138.By, b138.Client, b138.Service, b138.Key, b138.Parent, b138.Evid, (⟨b138.Rest.Servers, b138.Rest.Ops, b138.Rest.End⟩ : Timpl_Rest)⟩ : Timpl_Event)).set v126.toNat (⟨b139.Kind, (IntKind.i64.wrap (v125 + (1 : Int))), b139.By, b139.Client, b139.Service, b139.Key, b139.Parent, b139.Evid, (⟨b139.Rest.Servers, b139.Rest.Ops, b139.Rest.End⟩ : Timpl_Rest)⟩ : Timpl_Event)).set v126.toNat (⟨b140.Kind, b140.Realm, (IntKind.i64.wrap ((IntKind.i64.wrap (v125 + (1 : Int))) + (1 : Int))), b140.Client, b140.Service, b140.Key, b140.Parent, b140.Evid, (⟨b140.Rest.Servers, b140.Rest.Ops, b140.Rest.End⟩ : Timpl_Rest)⟩ : Timpl_Event)).set v126.toNat (⟨b141.Kind, b141.Realm, b141.By, (IntKind.i64.wrap ((IntKind.i64.wrap ((IntKind.i64.wrap (v125 + (1 : Int))) + (1 : Int))) + (1 : Int))), b141.Service, b141.Key, b141.Parent, b141.Evid, (⟨b141.Rest.Servers, b141.Rest.Ops, b141.Rest.End⟩ : Timpl_Rest)⟩ : Timpl_Event)).set v126.toNat (⟨b142.Kind, b142.Realm, b142.By, b142.Client, (IntKind.i64.wrap ((IntKind.i64.wrap ((IntKind.i64.wrap ((IntKind.i64.wrap (v125 + (1 : Int))) + (1 : Int))) + (1 : Int))) + (1 : Int))), b142.Key, b142.Parent, b142.Evid, (⟨b142.Rest.Servers, b142.Rest.Ops, b142.Rest.End⟩ : Timpl_Rest)⟩ : Timpl_Event)).set v126.toNat (⟨b143.Kind, b143.Realm, b143.By, b143.Client, b143.Service, (IntKind.i64.wrap ((IntKind.i64.wrap ((IntKind.i64.wrap ((IntKind.i64.wrap ((IntKind.i64.wrap (v125 + (1 : Int))) + (1 : Int))) + (1 : Int))) + (1 : Int))) + (1 : Int))), b143.Parent, b143.Evid, (⟨b143.Rest.Servers, b143.Rest.Ops, b143.Rest.End⟩ : Timpl_Rest)⟩ : Timpl_Event)).set v126.toNat (⟨b144.Kind, b144.Realm, b144.By, b144.Client, b144.Service, b144.Key, (IntKind.i64.wrap ((IntKind.i64.wrap ((IntKind.i64.wrap ((IntKind.i64.wrap ((IntKind.i64.wrap ((IntKind.i64.wrap (v125 + (1 : Int))) + (1 : Int))) + (1 : Int))) + (1 : Int))) + (1 : Int))) + (1 : Int))), b144.Evid, (⟨b144.Rest.Servers, b144.Rest.Ops, b144.Rest.End⟩ : Timpl_Rest)⟩ : Timpl_Event)).set v126.toNat (⟨b145.Kind, b145.Realm, b145.By, b145.Client, b145.Service, b145.Key, b145.Parent, (IntKind.i64.wrap ((IntKind.i64.wrap ((IntKind.i64.wrap ((IntKind.i64.wrap ((IntKind.i64.wrap ((IntKind.i64.wrap ((IntKind.i64.wrap (v125 + (1 : Int))) + (1 : Int))) + (1 : Int))) + (1 : Int))) + (1 : Int))) + (1 : Int))) + (1 : Int))), (⟨b145.Rest.Servers, b145.Rest.Ops, b145.Rest.End⟩ : Timpl_Rest)⟩ : Timpl_Event)).set v126.toNat (⟨b146.Kind, b146.Realm, b146.By, b146.Client, b146.Service, b146.Key, b146.Parent, b146.Evid, (⟨(IntKind.i64.wrap ((IntKind.i64.wrap ((IntKind.i64.wrap ((IntKind.i64.wrap ((IntKind.i64.wrap ((IntKind.i64.wrap ((IntKind.i64.wrap ((IntKind.i64.wrap (v125 + (1 : Int))) + (1 : Int))) + (1 : Int))) + (1 : Int))) + (1 : Int))) + (1 : Int))) + (1 : Int))) + (1 : Int))), b146.Rest.Ops, b146.Rest.End⟩ : Timpl_Rest)⟩ : Timpl_Event)).set v126.toNat (⟨b147.Kind, b147.Realm, b147.By, b147.Client, b147.Service, b147.Key, b147.Parent, b147.Evid, (⟨b147.Rest.Servers, (IntKind.i64.wrap ((IntKind.i64.wrap ((IntKind.i64.wrap ((IntKind.i64.wrap ((IntKind.i64.wrap ((IntKind.i64.wrap ((IntKind.i64.wrap ((IntKind.i64.wrap ((IntKind.i64.wrap (v125 + (1 : Int))) + (1 : Int))) + (1 : Int))) + (1 : Int))) + (1 : Int))) + (1 : Int))) + (1 : Int))) + (1 : Int))) + (1 : Int))), b147.Rest.End⟩ : Timpl_Rest)⟩ : Timpl_Event))) (e := eTimpl_Event) Try.underlying26 info135 hF rfl rfl rfl rfl rfl hb148 rfl rfl ?_
      refine L.fieldAddr Try.underlying135 rfl info74 rfl hF rfl rfl rfl rfl rfl ?_
      refine L.fieldAddr Try.underlying74 rfl info3 rfl hF rfl rfl rfl rfl rfl ?_
      refine L.storeEp (xs := ((((((((((v124.set v126.toNat (⟨v125, b138.Realm, b138.By, b138.Client, b138.Service, b138.Key, b138.Parent, b138.Evid, (⟨b138.Rest.Servers, b138.Rest.Ops, b138.Rest.End⟩ : Timpl_Rest)⟩ : Timpl_Event)).set v126.toNat (⟨b139.Kind, (IntKind.i64.wrap (v125 + (1 : Int))), b139.By, b139.Client, b139.Service, b139.Key, b139.Parent, b139.Evid, (⟨b139.Rest.Servers, b139.Rest.Ops, b139.Rest.End⟩ : Timpl_Rest)⟩ : Timpl_Event)).set v126.toNat (⟨b140.Kind, b140.Realm, (IntKind.i64.wrap ((IntKind.i64.wrap (v125 + (1 : Int))) + (1 : Int))), b140.Client, b140.Service, b140.Key, b140.Parent, b140.Evid, (⟨b140.Rest.Servers, b140.Rest.Ops, b140.Rest.End⟩ : Timpl_Rest)⟩ : Timpl_Event)).set v126.toNat (⟨b141.Kind, b141.Realm, b141.By, (IntKind.i64.wrap ((IntKind.i64.wrap ((IntKind.i64.wrap (v125 + (1 : Int))) + (1 : Int))) + (1 : Int))), b141.Service, b141.Key, b141.Parent, b141.Evid, (⟨b141.Rest.Servers, b141.Rest.Ops, b141.Rest.End⟩ : Timpl_Rest)⟩ : Timpl_Event)).set v126.toNat (⟨b142.Kind, b142.Realm, b142.By, b142.Client, (IntKind.i64.wrap ((IntKind.i64.wrap ((IntKind.i64.wrap ((IntKind.i64.wrap (v125 + (1 : Int))) + (1 : Int))) + (1 : Int))) + (1 : Int))), b142.Key, b142.Parent, b142.Evid, (⟨b142.Rest.Servers, b142.Rest.Ops, b142.Rest.End⟩ : Timpl_Rest)⟩ : Timpl_Event)).set v126.toNat (⟨b143.Kind, b143.Realm, b143.By, b143.Client, b143.Service, (IntKind.i64.wrap ((IntKind.i64.wrap ((IntKind.i64.wrap ((IntKind.i64.wrap ((IntKind.i64.wrap (v125 + (1 : Int))) + (1 : Int))) + (1 : Int))) + (1 : Int))) + (1 : Int))), b143.Parent, b143.Evid, (⟨b143.Rest.Servers, b143.Rest.Ops, b143.Rest.End⟩ : Timpl_Rest)⟩ : Timpl_Event)).set v126.toNat (⟨b144.Kind, b144.Realm, b144.By, b144.Client, b144.Service, b144.Key, (IntKind.i64.wrap ((IntKind.i64.wrap ((IntKind.i64.wrap ((IntKind.i64.wrap ((IntKind.i64.wrap ((IntKind.i64.wrap (v125 + (1 : Int))) + (1 : Int))) + (1 : Int))) + (1 : Int))) + (1 : Int))) + (1 : Int))), b144.Evid, (⟨b144.Rest.Servers, b144.Rest.Ops, b144.Rest.End⟩ : Timpl_Rest)⟩ : Timpl_Event)).set v126.toNat (⟨b145.Kind, b145.Realm, b145.By, b145.Client, b145.Service, b145.Key, b145.Parent, (IntKind.i64.wrap ((IntKind.i64.wrap ((IntKind.i64.wrap ((IntKind.i64.wrap ((IntKind.i64.wrap ((IntKind.i64.wrap ((IntKind.i64.wrap (v125 + (1 : Int))) + (1 : Int))) + (1 : Int))) + (1 : Int))) + (1 : Int))) + (1 : Int))) + (1 : Int))), (⟨b145.Rest.Servers, b145.Rest.Ops, b145.Rest.End⟩ : Timpl_Rest)⟩ : Timpl_Event)).set v126.toNat (⟨b146.Kind, b146.Realm, b146.By, b146.Client, b146.Service, b146.Key, b146.Parent, b146.Evid, (⟨(IntKind.i64.wrap ((IntKind.i64.wrap ((IntKind.i64.wrap ((IntKind.i64.wrap ((IntKind.i64.wrap ((IntKind.i64.wrap ((IntKind.i64.wrap ((IntKind.i64.wrap (v125 + (1 : Int))) + (1 : Int))) + (1 : Int))) + (1 : Int))) + (1 : Int))) + (1 : Int))) + (1 : Int))) + (1 : Int))), b146.Rest.Ops, b146.Rest.End⟩ : Timpl_Rest)⟩ : Timpl_Event)).set v126.toNat (⟨b147.Kind, b147.Realm, b147.By, b147.Client, b147.Service, b147.Key, b147.Parent, b147.Evid, (⟨b147.Rest.Servers, (IntKind.i64.wrap ((IntKind.i64.wrap ((IntKind.i64.wrap ((IntKind.i64.wrap ((IntKind.i64.wrap ((IntKind.i64.wrap ((IntKind.i64.wrap ((IntKind.i64.wrap ((IntKind.i64.wrap (v125 + (1 : Int))) + (1 : Int))) + (1 : Int))) + (1 : Int))) + (1 : Int))) + (1 : Int))) + (1 : Int))) + (1 : Int))) + (1 : Int))), b147.Rest.End⟩ : Timpl_Rest)⟩ : Timpl_Event))) (e := eTimpl_Event) (a' := (⟨b148.Kind, b148.Realm, b148.By, b148.Client, b148.Service, b148.Key, b148.Parent, b148.Evid, (⟨b148.Rest.Servers, b148.Rest.Ops, (IntKind.i64.wrap ((IntKind.i64.wrap ((IntKind.i64.wrap ((IntKind.i64.wrap ((IntKind.i64.wrap ((IntKind.i64.wrap ((IntKind.i64.wrap ((IntKind.i64.wrap ((IntKind.i64.wrap ((IntKind.i64.wrap (v125 + (1 : Int))) + (1 : Int))) + (1 : Int))) + (1 : Int))) + (1 : Int))) + (1 : Int))) + (1 : Int))) + (1 : Int))) + (1 : Int))) + (1 : Int)))⟩ : Timpl_Rest)⟩ : Timpl_Event)) shape3 hF rfl rfl rfl rfl rfl rfl rfl (at?_get hb148).2 rfl rfl ?_
      refine L.nil ?_
      refine WpC.regionL ?_
      refine L.move hF rfl rfl rfl ?_
      refine L.bin hF rfl rfl rfl rfl rfl rfl ?_
      refine L.assign hF rfl rfl rfl ?_
      refine L.nil ?_
      refine WpC.regionL ?_
      refine L.move hF rfl rfl rfl ?_
      refine L.bin hF rfl rfl rfl rfl rfl rfl ?_
      refine L.assign hF rfl rfl rfl ?_
      refine L.nil ?_
      exact ⟨k2, _, by omega, ⟨(((((((((((v124.set v126.toNat (⟨v125, b138.Realm, b138.By, b138.Client, b138.Service, b138.Key, b138.Parent, b138.Evid, (⟨b138.Rest.Servers, b138.Rest.Ops, b138.Rest.End⟩ : Timpl_Rest)⟩ : Timpl_Event)).set v126.toNat (⟨b139.Kind, (IntKind.i64.wrap (v125 + (1 : Int))), b139.By, b139.Client, b139.Service, b139.Key, b139.Parent, b139.Evid, (⟨b139.Rest.Servers, b139.Rest.Ops, b139.Rest.End⟩ : Timpl_Rest)⟩ : Timpl_Event)).set v126.toNat (⟨b140.Kind, b140.Realm, (IntKind.i64.wrap ((IntKind.i64.wrap (v125 + (1 : Int))) + (1 : Int))), b140.Client, b140.Service, b140.Key, b140.Parent, b140.Evid, (⟨b140.Rest.Servers, b140.Rest.Ops, b140.Rest.End⟩ : Timpl_Rest)⟩ : Timpl_Event)).set v126.toNat (⟨b141.Kind, b141.Realm, b141.By, (IntKind.i64.wrap ((IntKind.i64.wrap ((IntKind.i64.wrap (v125 + (1 : Int))) + (1 : Int))) + (1 : Int))), b141.Service, b141.Key, b141.Parent, b141.Evid, (⟨b141.Rest.Servers, b141.Rest.Ops, b141.Rest.End⟩ : Timpl_Rest)⟩ : Timpl_Event)).set v126.toNat (⟨b142.Kind, b142.Realm, b142.By, b142.Client, (IntKind.i64.wrap ((IntKind.i64.wrap ((IntKind.i64.wrap ((IntKind.i64.wrap (v125 + (1 : Int))) + (1 : Int))) + (1 : Int))) + (1 : Int))), b142.Key, b142.Parent, b142.Evid, (⟨b142.Rest.Servers, b142.Rest.Ops, b142.Rest.End⟩ : Timpl_Rest)⟩ : Timpl_Event)).set v126.toNat (⟨b143.Kind, b143.Realm, b143.By, b143.Client, b143.Service, (IntKind.i64.wrap ((IntKind.i64.wrap ((IntKind.i64.wrap ((IntKind.i64.wrap ((IntKind.i64.wrap (v125 + (1 : Int))) + (1 : Int))) + (1 : Int))) + (1 : Int))) + (1 : Int))), b143.Parent, b143.Evid, (⟨b143.Rest.Servers, b143.Rest.Ops, b143.Rest.End⟩ : Timpl_Rest)⟩ : Timpl_Event)).set v126.toNat (⟨b144.Kind, b144.Realm, b144.By, b144.Client, b144.Service, b144.Key, (IntKind.i64.wrap ((IntKind.i64.wrap ((IntKind.i64.wrap ((IntKind.i64.wrap ((IntKind.i64.wrap ((IntKind.i64.wrap (v125 + (1 : Int))) + (1 : Int))) + (1 : Int))) + (1 : Int))) + (1 : Int))) + (1 : Int))), b144.Evid, (⟨b144.Rest.Servers, b144.Rest.Ops, b144.Rest.End⟩ : Timpl_Rest)⟩ : Timpl_Event)).set v126.toNat (⟨b145.Kind, b145.Realm, b145.By, b145.Client, b145.Service, b145.Key, b145.Parent, (IntKind.i64.wrap ((IntKind.i64.wrap ((IntKind.i64.wrap ((IntKind.i64.wrap ((IntKind.i64.wrap ((IntKind.i64.wrap ((IntKind.i64.wrap (v125 + (1 : Int))) + (1 : Int))) + (1 : Int))) + (1 : Int))) + (1 : Int))) + (1 : Int))) + (1 : Int))), (⟨b145.Rest.Servers, b145.Rest.Ops, b145.Rest.End⟩ : Timpl_Rest)⟩ : Timpl_Event)).set v126.toNat (⟨b146.Kind, b146.Realm, b146.By, b146.Client, b146.Service, b146.Key, b146.Parent, b146.Evid, (⟨(IntKind.i64.wrap ((IntKind.i64.wrap ((IntKind.i64.wrap ((IntKind.i64.wrap ((IntKind.i64.wrap ((IntKind.i64.wrap ((IntKind.i64.wrap ((IntKind.i64.wrap (v125 + (1 : Int))) + (1 : Int))) + (1 : Int))) + (1 : Int))) + (1 : Int))) + (1 : Int))) + (1 : Int))) + (1 : Int))), b146.Rest.Ops, b146.Rest.End⟩ : Timpl_Rest)⟩ : Timpl_Event)).set v126.toNat (⟨b147.Kind, b147.Realm, b147.By, b147.Client, b147.Service, b147.Key, b147.Parent, b147.Evid, (⟨b147.Rest.Servers, (IntKind.i64.wrap ((IntKind.i64.wrap ((IntKind.i64.wrap ((IntKind.i64.wrap ((IntKind.i64.wrap ((IntKind.i64.wrap ((IntKind.i64.wrap ((IntKind.i64.wrap ((IntKind.i64.wrap (v125 + (1 : Int))) + (1 : Int))) + (1 : Int))) + (1 : Int))) + (1 : Int))) + (1 : Int))) + (1 : Int))) + (1 : Int))) + (1 : Int))), b147.Rest.End⟩ : Timpl_Rest)⟩ : Timpl_Event)).set v126.toNat (⟨b148.Kind, b148.Realm, b148.By, b148.Client, b148.Service, b148.Key, b148.Parent, b148.Evid, (⟨b148.Rest.Servers, b148.Rest.Ops, (IntKind.i64.wrap ((IntKind.i64.wrap ((IntKind.i64.wrap ((IntKind.i64.wrap ((IntKind.i64.wrap ((IntKind.i64.wrap ((IntKind.i64.wrap ((IntKind.i64.wrap ((IntKind.i64.wrap ((IntKind.i64.wrap (v125 + (1 : Int))) + (1 : Int))) + (1 : Int))) + (1 : Int))) + (1 : Int))) + (1 : Int))) + (1 : Int))) + (1 : Int))) + (1 : Int))) + (1 : Int)))⟩ : Timpl_Rest)⟩ : Timpl_Event)), (IntKind.i64.wrap ((IntKind.i64.wrap ((IntKind.i64.wrap ((IntKind.i64.wrap ((IntKind.i64.wrap ((IntKind.i64.wrap ((IntKind.i64.wrap ((IntKind.i64.wrap ((IntKind.i64.wrap ((IntKind.i64.wrap ((IntKind.i64.wrap (v125 + (1 : Int))) + (1 : Int))) + (1 : Int))) + (1 : Int))) + (1 : Int))) + (1 : Int))) + (1 : Int))) + (1 : Int))) + (1 : Int))) + (1 : Int))) + (1 : Int))), (IntKind.i64.wrap (v126 + (1 : Int))), by omega, H, rfl⟩, Le.mk [(0, 0)] hm rfl ⟨⟨_, rfl, rfl⟩, ⟨_, rfl, rfl⟩, ⟨_, rfl, rfl⟩, trivial⟩ ⟨⟨_, rfl, rfl⟩, trivial⟩ trivial⟩
    · replace H := condF hc H
      refine WpC.exit ?_
      refine WpC.seq ?_
      refine WpC.regionL ?_
      refine L.move hF rfl rfl rfl ?_
      refine L.assign hF rfl rfl rfl ?_
      refine L.nil ?_
      refine WpC.ret ?_
      cases H
      exact Leaves.retB rfl rfl rfl rfl ⟨rfl, rfl, rfl⟩
/-! ### Flaws_heldIntS -/
def Flaws_heldIntS.l2 : Nat → (List Int) → Int → Int → Option Int
  | 0, _, _, _ => none
  | k2 + 1, v34, v35, v36 => cond (decide (v36 < (v34.length : Int))) ((at? v34 v36).bind fun b40 => cond (b40 != v35) (some (-1 : Int)) ((Flaws_heldIntS.l2 k2) v34 (IntKind.i64.wrap (v35 + (1 : Int))) (IntKind.i64.wrap (v36 + (1 : Int))))) (some v35)
def Flaws_heldIntS (k : Nat) (a0 : List Int) (a1 : Int) : Option Int := Flaws_heldIntS.l2 k a0 a1 (0 : Int)
theorem ent30 : MG.Enters Try.prog 30 := ⟨Try.f30, Try.func30, rfl, by decide⟩
set_option maxHeartbeats 8000000 in
set_option maxRecDepth 100000 in
theorem Flaws_heldIntS_gives (k : Nat) (g0 : Bool) (a0 : List Int) (a1 : Int) (r : Int) (H : Flaws_heldIntS k a0 a1 = some r) : Gives Try.prog 30 [V.one (Cell.sl g0 (List.map eI a0)), V.one (cI a1)] [] [V.one (cI r)] [] := by
  refine Gives.intro Try.func30 rfl rfl rfl rfl ?_
  intro F hF hm
  unfold Flaws_heldIntS at H
  obtain ⟨K, hK⟩ : ∃ K, k ≤ K := ⟨k, Nat.le_refl k⟩
  refine WpC.seq ?_
  refine WpC.regionL ?_
  refine L.assign hF rfl rfl rfl ?_
  refine L.nil ?_
  refine WpC.seq ?_
  refine WpC.seq ?_
  refine WpC.regionL ?_
  refine L.assign hF rfl rfl rfl ?_
  refine L.nil ?_
  refine WpC.block ?_
  refine WpC.loopL (P := Try.prog) (fun n σ => ∃ v34 : List Int, ∃ v35 : Int, ∃ v36 : Int, n ≤ K ∧ Flaws_heldIntS.l2 n v34 v35 v36 = some r ∧ σ = mkSt [(0, MG.one (Cell.sl g0 (List.map eI v34))), (1, MG.one (cI v35)), (5, MG.one (cI v36))] [] [] 0) k ⟨_, ⟨a0, a1, (0 : Int), by omega, H, rfl⟩, Le.mk [] hm rfl ⟨⟨_, rfl, rfl⟩, ⟨_, rfl, rfl⟩, ⟨_, rfl, rfl⟩, trivial⟩ trivial trivial⟩ ?_
  clear H
  rintro k2 _ ⟨v34, v35, v36, hk2, H, rfl⟩
  cases k2 with
  | zero => cases H
  | succ k2 =>
    rw [Flaws_heldIntS.l2] at H
    refine WpC.seq ?_
    refine WpC.seq ?_
    refine WpC.regionL ?_
    refine L.move hF rfl rfl rfl ?_
    refine L.move hF rfl rfl rfl ?_
    refine L.lenR (xs := v34) (e := eI) Try.underlying24 hF rfl rfl rfl rfl ?_
    refine L.bin hF rfl rfl rfl rfl rfl rfl ?_
    refine L.nil ?_
    refine WpC.cond rfl (fun hc => ?_) (fun hc => ?_)
    · replace H := condT hc H
      refine WpC.skip ?_
      refine WpC.seq ?_
      refine WpC.block ?_
      refine WpC.seq ?_
      refine WpC.seq ?_
      refine WpC.regionL ?_
      refine L.move hF rfl rfl rfl ?_
      refine L.move hF rfl rfl rfl ?_
      obtain ⟨b40, hb40, H⟩ := bindS H
      refine L.idxR (xs := v34) (e := eI) Try.underlying24 info3 hF rfl rfl rfl rfl rfl hb40 rfl rfl ?_
      refine L.loadPe shape3 hF rfl rfl rfl rfl rfl ?_
      refine L.move hF rfl rfl rfl ?_
      refine L.bin hF rfl rfl rfl rfl rfl rfl ?_
      refine L.nil ?_
      refine WpC.cond rfl (fun hc => ?_) (fun hc => ?_)
      · replace H := condT hc H
        refine WpC.seq ?_
        refine WpC.regionL ?_
        refine L.assign hF rfl rfl rfl ?_
        refine L.nil ?_
        refine WpC.ret ?_
        cases H
        exact Leaves.ret rfl rfl rfl ⟨rfl, rfl⟩
      · replace H := condF hc H
        refine WpC.skip ?_
        refine WpC.regionL ?_
        refine L.move hF rfl rfl rfl ?_
        refine L.bin hF rfl rfl rfl rfl rfl rfl ?_
        refine L.assign hF rfl rfl rfl ?_
        refine L.nil ?_
        refine WpC.regionL ?_
        refine L.move hF rfl rfl rfl ?_
        refine L.bin hF rfl rfl rfl rfl rfl rfl ?_
        refine L.assign hF rfl rfl rfl ?_
        refine L.nil ?_
        exact ⟨k2, _, by omega, ⟨v34, (IntKind.i64.wrap (v35 + (1 : Int))), (IntKind.i64.wrap (v36 + (1 : Int))), by omega, H, rfl⟩, Le.mk [] hm rfl ⟨⟨_, rfl, rfl⟩, ⟨_, rfl, rfl⟩, ⟨_, rfl, rfl⟩, trivial⟩ trivial trivial⟩
    · replace H := condF hc H
      refine WpC.exit ?_
      refine WpC.seq ?_
      refine WpC.regionL ?_
      refine L.move hF rfl rfl rfl ?_
      refine L.assign hF rfl rfl rfl ?_
      refine L.nil ?_
      refine WpC.ret ?_
      cases H
      exact Leaves.ret rfl rfl rfl ⟨rfl, rfl⟩
/-! ### Flaws_FnExactRoots -/
def Flaws_FnExactRoots (k : Nat) (a0 : Tlaws_Config) (a1 : List Tlaws_Event) (a2 : Int) : Option Bool := (Flaws_szConfig k a0 (1048576 : Int)).bind fun r1 => cond (decide (r1 < (0 : Int))) (some true) ((Flaws_szEventS k a1 r1).bind fun r2 => cond (decide (r2 < (0 : Int))) (some true) ((Flaws_toConfig k a0).bind fun r3 => (Flaws_toEventS k a1).bind fun r4 => (Fspec_Roots k r3 r4 a2).bind fun r5 => (Flaws_toConfig k a0).bind fun r6 => (Flaws_toEventS k a1).bind fun r7 => (Fimpl_Roots k r6 r7 a2).bind fun r8 => (Flaws_eqIntS k r8 r5).bind fun r10 => cond (!r10) (some false) ((Flaws_toConfig k a0).bind fun r13 => (Flaws_eqConfig k r6 r13).bind fun r14 => cond (!r14) (some false) ((Flaws_toEventS k a1).bind fun r17 => (Flaws_eqEventS k r7 r17).bind fun r18 => cond (!r18) (some false) ((Flaws_markConfig k r6 (1 : Int)).bind fun r19 => (Flaws_markEventS k r7 r19.1).bind fun r20 => cond (decide (r20.1 < (0 : Int))) (some false) ((Flaws_eqIntS k r8 r5).bind fun r24 => cond (!r24) (some false) ((Flaws_markIntS k r8 (1 : Int)).bind fun r25 => (Flaws_heldIntS k r25.2 (1 : Int)).bind fun r26 => cond (decide (r26 < (0 : Int))) (some false) (cond (r26 != r25.1) (some false) ((Flaws_toConfig k a0).bind fun r27 => (Flaws_toEventS k a1).bind fun r28 => (Fimpl_Roots k r27 r28 a2).bind fun r29 => (Flaws_eqIntS k r29 r5).bind fun r31 => cond (!r31) (some false) ((Flaws_heldIntS k r25.2 (1 : Int)).bind fun r32 => cond (decide (r32 < (0 : Int))) (some false) (cond (r32 != r25.1) (some false) (some true))))))))))))
theorem ent20 : MG.Enters Try.prog 20 := ⟨Try.f20, Try.func20, rfl, by decide⟩
set_option maxHeartbeats 8000000 in
set_option maxRecDepth 100000 in
theorem Flaws_FnExactRoots_gives (k : Nat) (g0 : Bool) (g1 : Bool) (g2 : Bool) (g3 : Bool) (g4 : Bool) (a0 : Tlaws_Config) (a1 : List Tlaws_Event) (a2 : Int) (r : Bool) (H : Flaws_FnExactRoots k a0 a1 a2 = some r) : Gives Try.prog 20 [V.agg [Cell.sl g0 (List.map eI a0.UserRealm), Cell.sl g1 (List.map eI a0.ServiceRealm), Cell.sl g2 (List.map eTlaws_Pair a0.Links), Cell.sl g3 (List.map eTlaws_Pair a0.Proxy), cI a0.Skew], V.one (Cell.sl g4 (List.map eTlaws_Event a1)), V.one (cI a2)] [] [V.one (cL r)] [] := by
  refine Gives.intro Try.func20 rfl rfl rfl rfl ?_
  intro F hF hm
  unfold Flaws_FnExactRoots at H
  obtain ⟨K, hK⟩ : ∃ K, k ≤ K := ⟨k, Nat.le_refl k⟩
  refine WpC.seq ?_
  refine WpC.regionL ?_
  refine L.box 7 hF rfl rfl rfl rfl ?_
  refine L.assign hF rfl rfl rfl ?_
  refine L.nil ?_
  refine WpC.seq ?_
  refine WpC.regionL ?_
  refine L.assign hF rfl rfl rfl ?_
  refine L.nil ?_
  refine WpC.seq ?_
  refine WpC.regionL ?_
  refine L.loadPtr shape83 hF rfl rfl rfl rfl rfl rfl ?_
  refine L.move hF rfl rfl rfl ?_
  obtain ⟨r1, hr1, H⟩ := bindS H
  refine L.call [false, false] [] [] 8 hF rfl rfl rfl ent69 rfl rfl rfl rfl rfl (Flaws_szConfig_gives k g0 g1 g2 g3 a0 (1048576 : Int) r1 hr1) rfl ?_
  refine L.assign hF rfl rfl rfl ?_
  refine L.nil ?_
  refine WpC.seq ?_
  refine WpC.seq ?_
  refine WpC.regionL ?_
  refine L.move hF rfl rfl rfl ?_
  refine L.bin hF rfl rfl rfl rfl rfl rfl ?_
  refine L.nil ?_
  refine WpC.cond rfl (fun hc => ?_) (fun hc => ?_)
  · replace H := condT hc H
    refine WpC.seq ?_
    refine WpC.regionL ?_
    refine L.assign hF rfl rfl rfl ?_
    refine L.nil ?_
    refine WpC.ret ?_
    cases H
    exact Leaves.ret rfl rfl rfl ⟨rfl, rfl⟩
  · replace H := condF hc H
    refine WpC.skip ?_
    refine WpC.seq ?_
    refine WpC.regionL ?_
    refine L.move hF rfl rfl rfl ?_
    refine L.move hF rfl rfl rfl ?_
    obtain ⟨r2, hr2, H⟩ := bindS H
    refine L.call [false, false] [] [] 9 hF rfl rfl rfl ent22 rfl rfl rfl rfl rfl (Flaws_szEventS_gives k g4 a1 r1 r2 hr2) rfl ?_
    refine L.assign hF rfl rfl rfl ?_
    refine L.nil ?_
    refine WpC.seq ?_
    refine WpC.seq ?_
    refine WpC.regionL ?_
    refine L.move hF rfl rfl rfl ?_
    refine L.bin hF rfl rfl rfl rfl rfl rfl ?_
    refine L.nil ?_
    refine WpC.cond rfl (fun hc => ?_) (fun hc => ?_)
    · replace H := condT hc H
      refine WpC.seq ?_
      refine WpC.regionL ?_
      refine L.assign hF rfl rfl rfl ?_
      refine L.nil ?_
      refine WpC.ret ?_
      cases H
      exact Leaves.ret rfl rfl rfl ⟨rfl, rfl⟩
    · replace H := condF hc H
      refine WpC.skip ?_
      refine WpC.seq ?_
      refine WpC.regionL ?_
      refine L.loadPtr shape83 hF rfl rfl rfl rfl rfl rfl ?_
      obtain ⟨r3, hr3, H⟩ := bindS H
      refine L.call [false] [] [] 10 hF rfl rfl rfl ent71 rfl rfl rfl rfl rfl (Flaws_toConfig_gives k g0 g1 g2 g3 a0 r3 hr3) rfl ?_
      refine L.move hF rfl rfl rfl ?_
      obtain ⟨r4, hr4, H⟩ := bindS H
      refine L.call [false] [] [] 15 hF rfl rfl rfl ent24 rfl rfl rfl rfl rfl (Flaws_toEventS_gives k g4 a1 r4 hr4) rfl ?_
      refine L.move hF rfl rfl rfl ?_
      obtain ⟨r5, hr5, H⟩ := bindS H
      refine L.call [false, false, false] [10, 11, 12, 13, 15] [] 16 hF rfl rfl rfl ent93 rfl rfl rfl rfl rfl (Fspec_Roots_gives k false false false false false r3 r4 a2 r5 hr5) rfl ?_
      refine L.assign hF rfl rfl rfl ?_
      refine L.nil ?_
      refine WpC.seq ?_
      refine WpC.regionL ?_
      refine L.loadPtr shape83 hF rfl rfl rfl rfl rfl rfl ?_
      obtain ⟨r6, hr6, H⟩ := bindS H
      refine L.call [false] [] [] 17 hF rfl rfl rfl ent71 rfl rfl rfl rfl rfl (Flaws_toConfig_gives k g0 g1 g2 g3 a0 r6 hr6) rfl ?_
      refine L.alloc 22 info90 rfl hF rfl rfl rfl rfl ?_
      refine L.storePtr shape90 hF rfl rfl rfl rfl rfl rfl rfl ?_
      refine L.nil ?_
      refine WpC.seq ?_
      refine WpC.regionL ?_
      refine L.move hF rfl rfl rfl ?_
      obtain ⟨r7, hr7, H⟩ := bindS H
      refine L.call [false] [] [] 23 hF rfl rfl rfl ent24 rfl rfl rfl rfl rfl (Flaws_toEventS_gives k g4 a1 r7 hr7) rfl ?_
      refine L.assign hF rfl rfl rfl ?_
      refine L.nil ?_
      refine WpC.seq ?_
      refine WpC.regionL ?_
      refine L.loadPtr shape90 hF rfl rfl rfl rfl rfl rfl ?_
      refine L.move hF rfl rfl rfl ?_
      refine L.move hF rfl rfl rfl ?_
      obtain ⟨r8, hr8, H⟩ := bindS H
      refine L.call [false, false, false] [17, 18, 19, 20, 23] [] 24 hF rfl rfl rfl ent94 rfl rfl rfl rfl rfl (Fimpl_Roots_gives k false false false false false r6 r7 a2 r8 hr8) rfl ?_
      refine L.assign hF rfl rfl rfl ?_
      refine L.nil ?_
      refine WpC.seq ?_
      refine WpC.seq ?_
      refine WpC.regionL ?_
      refine L.move hF rfl rfl rfl ?_
      refine L.move hF rfl rfl rfl ?_
      obtain ⟨r10, hr10, H⟩ := bindS H
      refine L.call [false, false] [24] [] 25 hF rfl rfl rfl ent26 rfl rfl rfl rfl rfl (Flaws_eqIntS_gives k false true r8 r5 r10 hr10) rfl ?_
      refine L.not hF rfl rfl rfl ?_
      refine L.nil ?_
      refine WpC.cond rfl (fun hc => ?_) (fun hc => ?_)
      · replace H := condT hc H
        refine WpC.seq ?_
        refine WpC.regionL ?_
        refine L.assign hF rfl rfl rfl ?_
        refine L.nil ?_
        refine WpC.ret ?_
        cases H
        exact Leaves.ret rfl rfl rfl ⟨rfl, rfl⟩
      · replace H := condF hc H
        refine WpC.skip ?_
        refine WpC.seq ?_
        refine WpC.seq ?_
        obtain ⟨r13, hr13, H⟩ := bindS H
        obtain ⟨r14, hr14, H⟩ := bindS H
        refine A.begin mixed rfl rfl ?_
        intro W hI hO
        have n7 : W 2 #[true, true, true, false, false] (mkSt [(1, MG.one (Cell.sl g4 (List.map eTlaws_Event a1))), (2, MG.one (cI a2)), (3, MG.one (Cell.ptr 0 0)), (8, MG.one (Cell.sl true (List.map eI r5))), (9, MG.one (Cell.ptr 1 0)), (10, MG.one (Cell.own 2)), (11, MG.one (Cell.own 3)), (44, agg [Cell.own 4, Cell.own 5, Cell.own 6, Cell.own 7, cI r6.Skew]), (46, agg [Cell.own 8, Cell.own 9, Cell.own 10, Cell.own 11, cI r13.Skew])] [(2, ⟨11, List.map eTimpl_Event r7⟩), (3, ⟨1, List.map eI r8⟩), (4, ⟨1, List.map eI r6.UserRealm⟩), (5, ⟨1, List.map eI r6.ServiceRealm⟩), (6, ⟨2, List.map eTimpl_Pair r6.Links⟩), (7, ⟨2, List.map eTimpl_Pair r6.Proxy⟩), (8, ⟨1, List.map eI r13.UserRealm⟩), (9, ⟨1, List.map eI r13.ServiceRealm⟩), (10, ⟨2, List.map eTimpl_Pair r13.Links⟩), (11, ⟨2, List.map eTimpl_Pair r13.Proxy⟩)] [(0, [Cell.sl g0 (List.map eI a0.UserRealm), Cell.sl g1 (List.map eI a0.ServiceRealm), Cell.sl g2 (List.map eTlaws_Pair a0.Links), Cell.sl g3 (List.map eTlaws_Pair a0.Proxy), cI a0.Skew]), (1, [Cell.own 4, Cell.own 5, Cell.own 6, Cell.own 7, cI r6.Skew])] 12) := by
          refine hI _ _ _ ?_
          refine A.all [3] (by kernel_rfl) rfl ⟨⟨_, rfl, ?_⟩, trivial⟩
          refine L.call [false, false] [4, 5, 6, 7, 8, 9, 10, 11] [] 12 hF rfl rfl rfl ent75 rfl rfl rfl rfl rfl (Flaws_eqConfig_gives k false false false false false false false false r6 r13 r14 hr14) rfl ?_
          refine L.nil ?_
          refine A.take 4 rfl (by kernel_rfl) (by kernel_rfl) (by kernel_rfl) rfl (Ca.un rfl rfl) (fun Q0 k0 => L.not hF rfl rfl rfl (L.nil k0)) ?_
          refine A.le (τ := mkSt [(1, MG.one (Cell.sl g4 (List.map eTlaws_Event a1))), (2, MG.one (cI a2)), (3, MG.one (Cell.ptr 0 0)), (8, MG.one (Cell.sl true (List.map eI r5))), (9, MG.one (Cell.ptr 1 0)), (10, MG.one (Cell.own 2)), (11, MG.one (Cell.own 3)), (48, MG.one (cL (!r14)))] [(2, ⟨11, List.map eTimpl_Event r7⟩), (3, ⟨1, List.map eI r8⟩), (4, ⟨1, List.map eI r6.UserRealm⟩), (5, ⟨1, List.map eI r6.ServiceRealm⟩), (6, ⟨2, List.map eTimpl_Pair r6.Links⟩), (7, ⟨2, List.map eTimpl_Pair r6.Proxy⟩)] [(0, [Cell.sl g0 (List.map eI a0.UserRealm), Cell.sl g1 (List.map eI a0.ServiceRealm), Cell.sl g2 (List.map eTlaws_Pair a0.Links), Cell.sl g3 (List.map eTlaws_Pair a0.Proxy), cI a0.Skew]), (1, [Cell.own 4, Cell.own 5, Cell.own 6, Cell.own 7, cI r6.Skew])] 8) (Le.mk [(0, 0), (1, 1), (2, 2), (3, 3), (4, 4), (5, 5), (6, 6), (7, 7)] hm rfl ⟨⟨_, rfl, rfl⟩, ⟨_, rfl, rfl⟩, ⟨_, rfl, rfl⟩, ⟨_, rfl, rfl⟩, ⟨_, rfl, rfl⟩, ⟨_, rfl, rfl⟩, ⟨_, rfl, rfl⟩, ⟨_, rfl, rfl⟩, trivial⟩ ⟨⟨_, rfl, rfl⟩, ⟨_, rfl, rfl⟩, ⟨_, rfl, rfl⟩, ⟨_, rfl, rfl⟩, ⟨_, rfl, rfl⟩, ⟨_, rfl, rfl⟩, trivial⟩ ⟨⟨_, _, rfl, rfl, rfl⟩, ⟨_, _, rfl, rfl, rfl⟩, trivial⟩) ?_
          refine A.done (by kernel_rfl) ?_
          refine WpC.cond rfl (fun hc => ?_) (fun hc => ?_)
          · replace H := condT hc H
            refine WpC.seq ?_
            refine WpC.regionL ?_
            refine L.assign hF rfl rfl rfl ?_
            refine L.nil ?_
            refine WpC.ret ?_
            cases H
            exact Leaves.ret rfl rfl rfl ⟨rfl, rfl⟩
          · replace H := condF hc H
            refine WpC.skip ?_
            refine WpC.seq ?_
            refine WpC.seq ?_
            refine WpC.regionL ?_
            refine L.move hF rfl rfl rfl ?_
            refine L.move hF rfl rfl rfl ?_
            obtain ⟨r17, hr17, H⟩ := bindS H
            refine L.call [false] [] [] 8 hF rfl rfl rfl ent24 rfl rfl rfl rfl rfl (Flaws_toEventS_gives k g4 a1 r17 hr17) rfl ?_
            obtain ⟨r18, hr18, H⟩ := bindS H
            refine L.call [false, false] [2, 8] [] 9 hF rfl rfl rfl ent27 rfl rfl rfl rfl rfl (Flaws_eqEventS_gives k false false r7 r17 r18 hr18) rfl ?_
            refine L.not hF rfl rfl rfl ?_
            refine L.nil ?_
            refine WpC.cond rfl (fun hc => ?_) (fun hc => ?_)
            · replace H := condT hc H
              refine WpC.seq ?_
              refine WpC.regionL ?_
              refine L.assign hF rfl rfl rfl ?_
              refine L.nil ?_
              refine WpC.ret ?_
              cases H
              exact Leaves.ret rfl rfl rfl ⟨rfl, rfl⟩
            · replace H := condF hc H
              refine WpC.skip ?_
              refine WpC.seq ?_
              refine WpC.regionL ?_
              refine L.assign hF rfl rfl rfl ?_
              refine L.nil ?_
              refine WpC.seq ?_
              refine WpC.regionL ?_
              refine L.loadPtr shape90 hF rfl rfl rfl rfl rfl rfl ?_
              refine L.move hF rfl rfl rfl ?_
              obtain ⟨r19, hr19, H⟩ := bindS H
              refine L.callB [true, false] [] [] 10 [0] hF rfl rfl rfl ent76 rfl rfl rfl rfl rfl (Flaws_markConfig_gives k  r6 (1 : Int) r19 hr19) rfl rfl rfl ?_
              refine L.assign hF rfl rfl rfl ?_
              refine L.nil ?_
              refine WpC.seq ?_
              refine WpC.regionL ?_
              refine L.move hF rfl rfl rfl ?_
              refine L.move hF rfl rfl rfl ?_
              obtain ⟨r20, hr20, H⟩ := bindS H
              refine L.callB [true, false] [] [] 11 [0] hF rfl rfl rfl ent28 rfl rfl rfl rfl rfl (Flaws_markEventS_gives k  r7 r19.1 r20 hr20) rfl rfl rfl ?_
              refine L.assign hF rfl rfl rfl ?_
              refine L.nil ?_
              refine WpC.seq ?_
              refine WpC.seq ?_
              refine WpC.regionL ?_
              refine L.move hF rfl rfl rfl ?_
              refine L.bin hF rfl rfl rfl rfl rfl rfl ?_
              refine L.move hF rfl rfl rfl ?_
              refine L.split (fun hc => ?_) (fun hc => ?_)
              · replace H := condT hc H
                refine L.off hF rfl rfl ?_
                refine L.off hF rfl rfl ?_
                refine L.off hF rfl rfl ?_
                refine L.off hF rfl rfl ?_
                refine L.pick hF rfl rfl rfl rfl ?_
                refine L.nil ?_
                refine WpC.cond rfl (fun _ => ?_) (fun hc => by cases hc)
                refine WpC.seq ?_
                refine WpC.regionL ?_
                refine L.assign hF rfl rfl rfl ?_
                refine L.nil ?_
                refine WpC.ret ?_
                cases H
                exact Leaves.ret rfl rfl rfl ⟨rfl, rfl⟩
              · replace H := condF hc H
                refine L.move hF rfl rfl rfl ?_
                refine L.move hF rfl rfl rfl ?_
                obtain ⟨r24, hr24, H⟩ := bindS H
                refine L.call [false, false] [3] [] 12 hF rfl rfl rfl ent26 rfl rfl rfl rfl rfl (Flaws_eqIntS_gives k false true r8 r5 r24 hr24) rfl ?_
                refine L.not hF rfl rfl rfl ?_
                refine L.pick hF rfl rfl rfl rfl ?_
                refine L.nil ?_
                refine WpC.cond rfl (fun hc => ?_) (fun hc => ?_)
                · replace H := condT hc H
                  refine WpC.seq ?_
                  refine WpC.regionL ?_
                  refine L.assign hF rfl rfl rfl ?_
                  refine L.nil ?_
                  refine WpC.ret ?_
                  cases H
                  exact Leaves.ret rfl rfl rfl ⟨rfl, rfl⟩
                · replace H := condF hc H
                  refine WpC.skip ?_
                  refine WpC.seq ?_
                  refine WpC.regionL ?_
                  refine L.assign hF rfl rfl rfl ?_
                  refine L.nil ?_
                  refine WpC.seq ?_
                  refine WpC.regionL ?_
                  refine L.move hF rfl rfl rfl ?_
                  refine L.move hF rfl rfl rfl ?_
                  obtain ⟨r25, hr25, H⟩ := bindS H
                  refine L.callB [true, false] [] [] 13 [0] hF rfl rfl rfl ent29 rfl rfl rfl rfl rfl (Flaws_markIntS_gives k  r8 (1 : Int) r25 hr25) rfl rfl rfl ?_
                  refine L.assign hF rfl rfl rfl ?_
                  refine L.nil ?_
                  refine WpC.seq ?_
                  refine WpC.regionL ?_
                  refine L.assign hF rfl rfl rfl ?_
                  refine L.nil ?_
                  refine WpC.seq ?_
                  refine WpC.regionL ?_
                  refine L.move hF rfl rfl rfl ?_
                  refine L.move hF rfl rfl rfl ?_
                  obtain ⟨r26, hr26, H⟩ := bindS H
                  refine L.call [false, false] [3] [] 14 hF rfl rfl rfl ent30 rfl rfl rfl rfl rfl (Flaws_heldIntS_gives k false r25.2 (1 : Int) r26 hr26) rfl ?_
                  refine L.assign hF rfl rfl rfl ?_
                  refine L.nil ?_
                  refine WpC.seq ?_
                  refine WpC.seq ?_
                  refine WpC.regionL ?_
                  refine L.move hF rfl rfl rfl ?_
                  refine L.bin hF rfl rfl rfl rfl rfl rfl ?_
                  refine L.nil ?_
                  refine WpC.cond rfl (fun hc => ?_) (fun hc => ?_)
                  · replace H := condT hc H
                    refine WpC.seq ?_
                    refine WpC.regionL ?_
                    refine L.assign hF rfl rfl rfl ?_
                    refine L.nil ?_
                    refine WpC.ret ?_
                    cases H
                    exact Leaves.ret rfl rfl rfl ⟨rfl, rfl⟩
                  · replace H := condF hc H
                    refine WpC.skip ?_
                    refine WpC.seq ?_
                    refine WpC.seq ?_
                    refine WpC.regionL ?_
                    refine L.move hF rfl rfl rfl ?_
                    refine L.move hF rfl rfl rfl ?_
                    refine L.bin hF rfl rfl rfl rfl rfl rfl ?_
                    refine L.nil ?_
                    refine WpC.cond rfl (fun hc => ?_) (fun hc => ?_)
                    · replace H := condT hc H
                      refine WpC.seq ?_
                      refine WpC.regionL ?_
                      refine L.assign hF rfl rfl rfl ?_
                      refine L.nil ?_
                      refine WpC.ret ?_
                      cases H
                      exact Leaves.ret rfl rfl rfl ⟨rfl, rfl⟩
                    · replace H := condF hc H
                      refine WpC.skip ?_
                      refine WpC.seq ?_
                      refine WpC.regionL ?_
                      refine L.loadPtr shape83 hF rfl rfl rfl rfl rfl rfl ?_
                      obtain ⟨r27, hr27, H⟩ := bindS H
                      refine L.call [false] [] [] 15 hF rfl rfl rfl ent71 rfl rfl rfl rfl rfl (Flaws_toConfig_gives k g0 g1 g2 g3 a0 r27 hr27) rfl ?_
                      refine L.move hF rfl rfl rfl ?_
                      obtain ⟨r28, hr28, H⟩ := bindS H
                      refine L.call [false] [] [] 20 hF rfl rfl rfl ent24 rfl rfl rfl rfl rfl (Flaws_toEventS_gives k g4 a1 r28 hr28) rfl ?_
                      refine L.move hF rfl rfl rfl ?_
                      obtain ⟨r29, hr29, H⟩ := bindS H
                      refine L.call [false, false, false] [15, 16, 17, 18, 20] [] 21 hF rfl rfl rfl ent94 rfl rfl rfl rfl rfl (Fimpl_Roots_gives k false false false false false r27 r28 a2 r29 hr29) rfl ?_
                      refine L.assign hF rfl rfl rfl ?_
                      refine L.nil ?_
                      refine WpC.seq ?_
                      refine WpC.seq ?_
                      refine WpC.regionL ?_
                      refine L.move hF rfl rfl rfl ?_
                      refine L.move hF rfl rfl rfl ?_
                      obtain ⟨r31, hr31, H⟩ := bindS H
                      refine L.call [false, false] [21] [] 22 hF rfl rfl rfl ent26 rfl rfl rfl rfl rfl (Flaws_eqIntS_gives k false true r29 r5 r31 hr31) rfl ?_
                      refine L.not hF rfl rfl rfl ?_
                      refine L.nil ?_
                      refine WpC.cond rfl (fun hc => ?_) (fun hc => ?_)
                      · replace H := condT hc H
                        refine WpC.seq ?_
                        refine WpC.regionL ?_
                        refine L.assign hF rfl rfl rfl ?_
                        refine L.nil ?_
                        refine WpC.ret ?_
                        cases H
                        exact Leaves.ret rfl rfl rfl ⟨rfl, rfl⟩
                      · replace H := condF hc H
                        refine WpC.skip ?_
                        refine WpC.seq ?_
                        refine WpC.regionL ?_
                        refine L.assign hF rfl rfl rfl ?_
                        refine L.nil ?_
                        refine WpC.seq ?_
                        refine WpC.regionL ?_
                        refine L.move hF rfl rfl rfl ?_
                        refine L.move hF rfl rfl rfl ?_
                        obtain ⟨r32, hr32, H⟩ := bindS H
                        refine L.call [false, false] [3] [] 23 hF rfl rfl rfl ent30 rfl rfl rfl rfl rfl (Flaws_heldIntS_gives k false r25.2 (1 : Int) r32 hr32) rfl ?_
                        refine L.assign hF rfl rfl rfl ?_
                        refine L.nil ?_
                        refine WpC.seq ?_
                        refine WpC.seq ?_
                        refine WpC.regionL ?_
                        refine L.move hF rfl rfl rfl ?_
                        refine L.bin hF rfl rfl rfl rfl rfl rfl ?_
                        refine L.nil ?_
                        refine WpC.cond rfl (fun hc => ?_) (fun hc => ?_)
                        · replace H := condT hc H
                          refine WpC.seq ?_
                          refine WpC.regionL ?_
                          refine L.assign hF rfl rfl rfl ?_
                          refine L.nil ?_
                          refine WpC.ret ?_
                          cases H
                          exact Leaves.ret rfl rfl rfl ⟨rfl, rfl⟩
                        · replace H := condF hc H
                          refine WpC.skip ?_
                          refine WpC.seq ?_
                          refine WpC.seq ?_
                          refine WpC.regionL ?_
                          refine L.move hF rfl rfl rfl ?_
                          refine L.move hF rfl rfl rfl ?_
                          refine L.bin hF rfl rfl rfl rfl rfl rfl ?_
                          refine L.nil ?_
                          refine WpC.cond rfl (fun hc => ?_) (fun hc => ?_)
                          · replace H := condT hc H
                            refine WpC.seq ?_
                            refine WpC.regionL ?_
                            refine L.assign hF rfl rfl rfl ?_
                            refine L.nil ?_
                            refine WpC.ret ?_
                            cases H
                            exact Leaves.ret rfl rfl rfl ⟨rfl, rfl⟩
                          · replace H := condF hc H
                            refine WpC.skip ?_
                            refine WpC.seq ?_
                            refine WpC.regionL ?_
                            refine L.assign hF rfl rfl rfl ?_
                            refine L.nil ?_
                            refine WpC.ret ?_
                            cases H
                            exact Leaves.ret rfl rfl rfl ⟨rfl, rfl⟩
        have n3 : W 3 #[true, true, false, false, false] (mkSt [(1, MG.one (Cell.sl g4 (List.map eTlaws_Event a1))), (2, MG.one (cI a2)), (3, MG.one (Cell.ptr 0 0)), (8, MG.one (Cell.sl true (List.map eI r5))), (9, MG.one (Cell.ptr 1 0)), (10, MG.one (Cell.own 2)), (11, MG.one (Cell.own 3)), (44, agg [Cell.own 4, Cell.own 5, Cell.own 6, Cell.own 7, cI r6.Skew]), (45, agg [Cell.sl g0 (List.map eI a0.UserRealm), Cell.sl g1 (List.map eI a0.ServiceRealm), Cell.sl g2 (List.map eTlaws_Pair a0.Links), Cell.sl g3 (List.map eTlaws_Pair a0.Proxy), cI a0.Skew])] [(2, ⟨11, List.map eTimpl_Event r7⟩), (3, ⟨1, List.map eI r8⟩), (4, ⟨1, List.map eI r6.UserRealm⟩), (5, ⟨1, List.map eI r6.ServiceRealm⟩), (6, ⟨2, List.map eTimpl_Pair r6.Links⟩), (7, ⟨2, List.map eTimpl_Pair r6.Proxy⟩)] [(0, [Cell.sl g0 (List.map eI a0.UserRealm), Cell.sl g1 (List.map eI a0.ServiceRealm), Cell.sl g2 (List.map eTlaws_Pair a0.Links), Cell.sl g3 (List.map eTlaws_Pair a0.Proxy), cI a0.Skew]), (1, [Cell.own 4, Cell.own 5, Cell.own 6, Cell.own 7, cI r6.Skew])] 8) := by
          refine hI _ _ _ ?_
          refine A.all [2] (by kernel_rfl) rfl ⟨⟨_, rfl, ?_⟩, trivial⟩
          refine L.call [false] [] [] 8 hF rfl rfl rfl ent71 rfl rfl rfl rfl rfl (Flaws_toConfig_gives k g0 g1 g2 g3 a0 r13 hr13) rfl ?_
          refine L.nil ?_
          exact A.on (hO _ _ _ n7) (Le.mk [(0, 0), (1, 1), (2, 2), (3, 3), (4, 4), (5, 5), (6, 6), (7, 7), (8, 8), (9, 9), (10, 10), (11, 11)] hm rfl ⟨⟨_, rfl, rfl⟩, ⟨_, rfl, rfl⟩, ⟨_, rfl, rfl⟩, ⟨_, rfl, rfl⟩, ⟨_, rfl, rfl⟩, ⟨_, rfl, rfl⟩, ⟨_, rfl, rfl⟩, ⟨_, rfl, rfl⟩, ⟨_, rfl, rfl⟩, trivial⟩ ⟨⟨_, rfl, rfl⟩, ⟨_, rfl, rfl⟩, ⟨_, rfl, rfl⟩, ⟨_, rfl, rfl⟩, ⟨_, rfl, rfl⟩, ⟨_, rfl, rfl⟩, ⟨_, rfl, rfl⟩, ⟨_, rfl, rfl⟩, ⟨_, rfl, rfl⟩, ⟨_, rfl, rfl⟩, trivial⟩ ⟨⟨_, _, rfl, rfl, rfl⟩, ⟨_, _, rfl, rfl, rfl⟩, trivial⟩)
        refine hI _ _ _ ?_
        refine A.all [0, 1] (by kernel_rfl) rfl ⟨⟨_, rfl, ?_⟩, ⟨_, rfl, ?_⟩, trivial⟩
        · refine L.loadPtr shape90 hF rfl rfl rfl rfl rfl rfl ?_
          refine L.nil ?_
          refine A.all [1] (by kernel_rfl) rfl ⟨⟨_, rfl, ?_⟩, trivial⟩
          refine L.loadPtr shape83 hF rfl rfl rfl rfl rfl rfl ?_
          refine L.nil ?_
          exact A.on (hO _ _ _ n3) (Le.mk [(0, 7), (1, 22), (2, 23), (3, 24), (4, 17), (5, 18), (6, 19), (7, 20)] hm rfl ⟨⟨_, rfl, rfl⟩, ⟨_, rfl, rfl⟩, ⟨_, rfl, rfl⟩, ⟨_, rfl, rfl⟩, ⟨_, rfl, rfl⟩, ⟨_, rfl, rfl⟩, ⟨_, rfl, rfl⟩, ⟨_, rfl, rfl⟩, ⟨_, rfl, rfl⟩, trivial⟩ ⟨⟨_, rfl, rfl⟩, ⟨_, rfl, rfl⟩, ⟨_, rfl, rfl⟩, ⟨_, rfl, rfl⟩, ⟨_, rfl, rfl⟩, ⟨_, rfl, rfl⟩, trivial⟩ ⟨⟨_, _, rfl, rfl, rfl⟩, ⟨_, _, rfl, rfl, rfl⟩, trivial⟩)
        · refine L.loadPtr shape83 hF rfl rfl rfl rfl rfl rfl ?_
          refine L.nil ?_
          refine A.all [0, 2] (by kernel_rfl) rfl ⟨⟨_, rfl, ?_⟩, ⟨_, rfl, ?_⟩, trivial⟩
          · refine L.loadPtr shape90 hF rfl rfl rfl rfl rfl rfl ?_
            refine L.nil ?_
            exact A.on (hO _ _ _ n3) (Le.mk [(0, 7), (1, 22), (2, 23), (3, 24), (4, 17), (5, 18), (6, 19), (7, 20)] hm rfl ⟨⟨_, rfl, rfl⟩, ⟨_, rfl, rfl⟩, ⟨_, rfl, rfl⟩, ⟨_, rfl, rfl⟩, ⟨_, rfl, rfl⟩, ⟨_, rfl, rfl⟩, ⟨_, rfl, rfl⟩, ⟨_, rfl, rfl⟩, ⟨_, rfl, rfl⟩, trivial⟩ ⟨⟨_, rfl, rfl⟩, ⟨_, rfl, rfl⟩, ⟨_, rfl, rfl⟩, ⟨_, rfl, rfl⟩, ⟨_, rfl, rfl⟩, ⟨_, rfl, rfl⟩, trivial⟩ ⟨⟨_, _, rfl, rfl, rfl⟩, ⟨_, _, rfl, rfl, rfl⟩, trivial⟩)
          · refine L.call [false] [] [] 26 hF rfl rfl rfl ent71 rfl rfl rfl rfl rfl (Flaws_toConfig_gives k g0 g1 g2 g3 a0 r13 hr13) rfl ?_
            refine L.nil ?_
            refine A.all [0] (by kernel_rfl) rfl ⟨⟨_, rfl, ?_⟩, trivial⟩
            refine L.loadPtr shape90 hF rfl rfl rfl rfl rfl rfl ?_
            refine L.nil ?_
            exact A.on (hO _ _ _ n7) (Le.mk [(0, 7), (1, 22), (2, 23), (3, 24), (4, 17), (5, 18), (6, 19), (7, 20), (8, 26), (9, 27), (10, 28), (11, 29)] hm rfl ⟨⟨_, rfl, rfl⟩, ⟨_, rfl, rfl⟩, ⟨_, rfl, rfl⟩, ⟨_, rfl, rfl⟩, ⟨_, rfl, rfl⟩, ⟨_, rfl, rfl⟩, ⟨_, rfl, rfl⟩, ⟨_, rfl, rfl⟩, ⟨_, rfl, rfl⟩, trivial⟩ ⟨⟨_, rfl, rfl⟩, ⟨_, rfl, rfl⟩, ⟨_, rfl, rfl⟩, ⟨_, rfl, rfl⟩, ⟨_, rfl, rfl⟩, ⟨_, rfl, rfl⟩, ⟨_, rfl, rfl⟩, ⟨_, rfl, rfl⟩, ⟨_, rfl, rfl⟩, ⟨_, rfl, rfl⟩, trivial⟩ ⟨⟨_, _, rfl, rfl, rfl⟩, ⟨_, _, rfl, rfl, rfl⟩, trivial⟩)
theorem open24 : Go.MG.Opens Try.prog 24 (Go.MG.eR Go.MG.eI) (Go.MG.wfR Go.MG.wfI) := Go.MG.Opens.slice Try.underlying24 (Go.MG.Opens.int Try.underlying3) (fun _ => (by kernel_rfl : Try.prog.cellsOf 3 = 1).symm) (fun _ => rfl) (fun _ => rfl) (by kernel_rfl)
def wfTlaws_Pair (x : Tlaws_Pair) : Prop := Go.MG.wfI x.A ∧ Go.MG.wfI x.B
theorem open258 : Go.MG.Opens Try.prog 258 eTlaws_Pair wfTlaws_Pair := by
  intro H enc W fuel cs x h
  obtain ⟨n, hp⟩ := Go.MG.struct_parts Try.underlying258 (by kernel_rfl : Try.prog.cellsOf 258 = 2) (by kernel_rfl) h
  obtain ⟨c0, k0, y0, rfl, h0, hp⟩ := hp
  obtain ⟨c1, k1, y1, rfl, h1, hp⟩ := hp
  obtain rfl := hp
  obtain ⟨a0, r0, w0⟩ := (Go.MG.Opens.int Try.underlying3) _ _ _ _ _ _ h0
  obtain ⟨a1, r1, w1⟩ := (Go.MG.Opens.int Try.underlying3) _ _ _ _ _ _ h1
  exact ⟨⟨a0, a1⟩, (r0.append (r1.append (rfl : Go.MG.RCs _ [] []))), w0, w1⟩
theorem open81 : Go.MG.Opens Try.prog 81 (Go.MG.eR eTlaws_Pair) (Go.MG.wfR wfTlaws_Pair) := Go.MG.Opens.slice Try.underlying81 open258 (fun _ => (by kernel_rfl : Try.prog.cellsOf 258 = 2).symm) (fun _ => rfl) (fun _ => rfl) (by kernel_rfl)
def wfTlaws_Config (x : Tlaws_Config) : Prop := (Go.MG.wfR Go.MG.wfI) x.UserRealm ∧ (Go.MG.wfR Go.MG.wfI) x.ServiceRealm ∧ (Go.MG.wfR wfTlaws_Pair) x.Links ∧ (Go.MG.wfR wfTlaws_Pair) x.Proxy ∧ Go.MG.wfI x.Skew
theorem open83 : Go.MG.Opens Try.prog 83 eTlaws_Config wfTlaws_Config := by
  intro H enc W fuel cs x h
  obtain ⟨n, hp⟩ := Go.MG.struct_parts Try.underlying83 (by kernel_rfl : Try.prog.cellsOf 83 = 5) (by kernel_rfl) h
  obtain ⟨c0, k0, y0, rfl, h0, hp⟩ := hp
  obtain ⟨c1, k1, y1, rfl, h1, hp⟩ := hp
  obtain ⟨c2, k2, y2, rfl, h2, hp⟩ := hp
  obtain ⟨c3, k3, y3, rfl, h3, hp⟩ := hp
  obtain ⟨c4, k4, y4, rfl, h4, hp⟩ := hp
  obtain rfl := hp
  obtain ⟨a0, r0, w0⟩ := open24 _ _ _ _ _ _ h0
  obtain ⟨a1, r1, w1⟩ := open24 _ _ _ _ _ _ h1
  obtain ⟨a2, r2, w2⟩ := open81 _ _ _ _ _ _ h2
  obtain ⟨a3, r3, w3⟩ := open81 _ _ _ _ _ _ h3
  obtain ⟨a4, r4, w4⟩ := (Go.MG.Opens.int Try.underlying3) _ _ _ _ _ _ h4
  exact ⟨⟨a0, a1, a2, a3, a4⟩, (r0.append (r1.append (r2.append (r3.append (r4.append (rfl : Go.MG.RCs _ [] [])))))), w0, w1, w2, w3, w4⟩
def wfTlaws_Rest (x : Tlaws_Rest) : Prop := Go.MG.wfI x.Servers ∧ Go.MG.wfI x.Ops ∧ Go.MG.wfI x.End
theorem open84 : Go.MG.Opens Try.prog 84 eTlaws_Rest wfTlaws_Rest := by
  intro H enc W fuel cs x h
  obtain ⟨n, hp⟩ := Go.MG.struct_parts Try.underlying84 (by kernel_rfl : Try.prog.cellsOf 84 = 3) (by kernel_rfl) h
  obtain ⟨c0, k0, y0, rfl, h0, hp⟩ := hp
  obtain ⟨c1, k1, y1, rfl, h1, hp⟩ := hp
  obtain ⟨c2, k2, y2, rfl, h2, hp⟩ := hp
  obtain rfl := hp
  obtain ⟨a0, r0, w0⟩ := (Go.MG.Opens.int Try.underlying3) _ _ _ _ _ _ h0
  obtain ⟨a1, r1, w1⟩ := (Go.MG.Opens.int Try.underlying3) _ _ _ _ _ _ h1
  obtain ⟨a2, r2, w2⟩ := (Go.MG.Opens.int Try.underlying3) _ _ _ _ _ _ h2
  exact ⟨⟨a0, a1, a2⟩, (r0.append (r1.append (r2.append (rfl : Go.MG.RCs _ [] [])))), w0, w1, w2⟩
def wfTlaws_Event (x : Tlaws_Event) : Prop := Go.MG.wfI x.Kind ∧ Go.MG.wfI x.Realm ∧ Go.MG.wfI x.By ∧ Go.MG.wfI x.Client ∧ Go.MG.wfI x.Service ∧ Go.MG.wfI x.Key ∧ Go.MG.wfI x.Parent ∧ Go.MG.wfI x.Evid ∧ wfTlaws_Rest x.Rest
theorem open138 : Go.MG.Opens Try.prog 138 eTlaws_Event wfTlaws_Event := by
  intro H enc W fuel cs x h
  obtain ⟨n, hp⟩ := Go.MG.struct_parts Try.underlying138 (by kernel_rfl : Try.prog.cellsOf 138 = 11) (by kernel_rfl) h
  obtain ⟨c0, k0, y0, rfl, h0, hp⟩ := hp
  obtain ⟨c1, k1, y1, rfl, h1, hp⟩ := hp
  obtain ⟨c2, k2, y2, rfl, h2, hp⟩ := hp
  obtain ⟨c3, k3, y3, rfl, h3, hp⟩ := hp
  obtain ⟨c4, k4, y4, rfl, h4, hp⟩ := hp
  obtain ⟨c5, k5, y5, rfl, h5, hp⟩ := hp
  obtain ⟨c6, k6, y6, rfl, h6, hp⟩ := hp
  obtain ⟨c7, k7, y7, rfl, h7, hp⟩ := hp
  obtain ⟨c8, k8, y8, rfl, h8, hp⟩ := hp
  obtain rfl := hp
  obtain ⟨a0, r0, w0⟩ := (Go.MG.Opens.int Try.underlying3) _ _ _ _ _ _ h0
  obtain ⟨a1, r1, w1⟩ := (Go.MG.Opens.int Try.underlying3) _ _ _ _ _ _ h1
  obtain ⟨a2, r2, w2⟩ := (Go.MG.Opens.int Try.underlying3) _ _ _ _ _ _ h2
  obtain ⟨a3, r3, w3⟩ := (Go.MG.Opens.int Try.underlying3) _ _ _ _ _ _ h3
  obtain ⟨a4, r4, w4⟩ := (Go.MG.Opens.int Try.underlying3) _ _ _ _ _ _ h4
  obtain ⟨a5, r5, w5⟩ := (Go.MG.Opens.int Try.underlying3) _ _ _ _ _ _ h5
  obtain ⟨a6, r6, w6⟩ := (Go.MG.Opens.int Try.underlying3) _ _ _ _ _ _ h6
  obtain ⟨a7, r7, w7⟩ := (Go.MG.Opens.int Try.underlying3) _ _ _ _ _ _ h7
  obtain ⟨a8, r8, w8⟩ := open84 _ _ _ _ _ _ h8
  exact ⟨⟨a0, a1, a2, a3, a4, a5, a6, a7, a8⟩, (r0.append (r1.append (r2.append (r3.append (r4.append (r5.append (r6.append (r7.append (r8.append (rfl : Go.MG.RCs _ [] [])))))))))), w0, w1, w2, w3, w4, w5, w6, w7, w8⟩
theorem open22 : Go.MG.Opens Try.prog 22 (Go.MG.eR eTlaws_Event) (Go.MG.wfR wfTlaws_Event) := Go.MG.Opens.slice Try.underlying22 open138 (fun _ => (by kernel_rfl : Try.prog.cellsOf 138 = 11).symm) (fun _ => rfl) (fun _ => rfl) (by kernel_rfl)
end Go.Proofs.Ytcolcmjcjpikcaa.M
