/- The desk's lines one by one: what comes of the first lines is told once. -/
import Derived.Test.YtnbjjmnohlnplaaGreatFDw
namespace Go.Proofs.YtnbjjmnohlnplaaGreat.M
open Go Go.MG
set_option linter.unusedVariables false
set_option linter.unusedSimpArgs false
set_option maxRecDepth 1000000
theorem wid {n : Int} (h1 : -9223372036854775808 ≤ n) (h2 : n ≤ 9223372036854775807) : IntKind.i64.wrap n = n := by
 rw [IntKind.wrap_i64]; omega
def dN (n : Nat) : List UInt8 := [UInt8.ofNat (48 + n)]
def d2 (n : Nat) : List UInt8 := cond (Nat.blt n 10) (dN n) (UInt8.ofNat (48 + n / 10) :: dN (n % 10))
def runsX : Nat → List (List UInt8) → List UInt8 → T_World → Option (List UInt8)
 | 0, _, _, _ => none
 | _ + 1, [], o, _ => some o
 | k + 1, l :: L, o, w => cond (l != ([] : List UInt8)) ((I_split k l (32 : UInt8)).bind fun r => (I_World_line k r w).bind fun q => cond (decide (o.length + q.1.length ≤ 9223372036854775807)) (cond (decide ((o ++ q.1).length + ([10] : List UInt8).length ≤ 9223372036854775807)) (runsX k L ((o ++ q.1) ++ ([10] : List UInt8)) q.2) none) none) (runsX k L o w)
def runsW : Nat → List (List UInt8) → List UInt8 → T_World → Option (List UInt8 × T_World)
 | 0, _, _, _ => none
 | _ + 1, [], o, w => some (o, w)
 | k + 1, l :: L, o, w => cond (l != ([] : List UInt8)) ((I_split k l (32 : UInt8)).bind fun r => (I_World_line k r w).bind fun q => cond (decide (o.length + q.1.length ≤ 9223372036854775807)) (cond (decide ((o ++ q.1).length + ([10] : List UInt8).length ≤ 9223372036854775807)) (runsW k L ((o ++ q.1) ++ ([10] : List UInt8)) q.2) none) none) (runsW k L o w)
theorem cond_bind2 {α β : Type} (c : Bool) (a b : Option α) (f : α → Option β) : (cond c a b).bind f = cond c (a.bind f) (b.bind f) := by cases c <;> rfl
theorem nbind {α β : Type} (f : α → Option β) : (none : Option α).bind f = none := rfl
theorem runs_app : ∀ (k : Nat) (A B : List (List UInt8)) (o : List UInt8) (w : T_World), A.length < k → runsX k (A ++ B) o w = (runsW k A o w).bind fun q => runsX (k - A.length) B q.1 q.2
 | 0, A, B, o, w, h => by omega
 | k + 1, [], B, o, w, h => by simp [runsW]
 | k + 1, l :: A, B, o, w, h => by
  have h' : A.length < k := by simp only [List.length_cons] at h; omega
  have ih := fun o w => runs_app k A B o w h'
  have e : k + 1 - (l :: A).length = k - A.length := by simp only [List.length_cons]; omega
  rw [e]
  simp only [List.cons_append, runsX, runsW, ih, cond_bind2, nbind, Option.bind_assoc]
theorem l8_runs : ∀ (k : Nat) (o : List UInt8) (L : List (List UInt8)) (i : Nat) (w : T_World), L.length ≤ 1000 → i ≤ L.length → I_Desk.l8 k o L (L.length : Int) (i : Int) w = runsX k (L.drop i) o w
 | 0, o, L, i, w, hL, hi => by rw [I_Desk.l8, runsX]
 | k + 1, o, L, i, w, hL, hi => by
  rw [I_Desk.l8]
  by_cases h : i < L.length
  ·have ha : at? L (i : Int) = some L[i] := by simp [at?, h]
   have ih := fun o w => l8_runs k o L (i + 1) w hL h
   have ew : IntKind.i64.wrap ((i : Int) + 1) = ((i + 1 : Nat) : Int) := by rw [wid (by omega) (by omega)]; omega
   rw [decide_eq_true (by omega : (i : Int) < (L.length : Int)), ha, List.drop_eq_getElem_cons h]
   simp only [cond_true, Option.bind_some, I_Desk.j9, ew, ih, runsX]
  ·have e : i = L.length := by omega
   subst e
   rw [decide_eq_false (by omega), List.drop_length]
   rfl
def linesOf (s : List UInt8) : Option (List (List UInt8)) := (I_split 1000 s (10 : UInt8)).bind fun r1 => (at? r1 (IntKind.i64.wrap ((r1.length : Int) - 1))).bind fun b => cond (b == ([] : List UInt8)) (part? r1 0 (IntKind.i64.wrap ((r1.length : Int) - 1))) (some r1)
def W0 : Option T_World := (I_deskConfig 1000).bind fun r6 => (I_NewWorld 1000 r6).bind fun r => some r.1
theorem Desk_eq {s : List UInt8} {L : List (List UInt8)} (h : linesOf s = some L) (hs : s.length ≤ 20000) (hL : L.length ≤ 120) : I_Desk 1000 s = W0.bind fun w => runsX 1000 L [] w := by
 have e : I_Desk 1000 s = (linesOf s).bind fun r => I_Desk.j1 1000 s r := by
  unfold I_Desk linesOf
  simp only [Option.bind_assoc, cond_bind2, Option.bind_some]
 have e2 : ∀ w, I_Desk.l8 1000 ([] : List UInt8) L (L.length : Int) 0 w = runsX 1000 L [] w := fun w => by
  have := l8_runs 1000 [] L 0 w (by omega) (by omega)
  simpa using this
 rw [e, h]
 simp only [Option.bind_some]
 unfold I_Desk.j1 W0
 rw [decide_eq_false (by omega), decide_eq_false (by omega)]
 simp only [cond_false, Option.bind_assoc, Option.bind_some, e2]
def Pre (t op : Nat) : List (List UInt8) := [[102, 108, 111, 119, 32, 48, 32] ++ dN t ++ [32, 55, 32, 50, 53, 53, 32, 52, 48, 32] ++ dN op, [97, 99, 99, 101, 112, 116, 115], [116, 114, 117, 116, 104], [115, 101, 114, 118, 101, 32] ++ dN t ++ [32] ++ dN (4 + 2 * t), [107, 110, 111, 119, 115, 32, 49, 48, 52], [108, 101, 97, 107, 32, 49], [107, 110, 111, 119, 115, 32, 49, 48, 50], [114, 101, 115, 116, 97, 114, 116, 32] ++ dN t]
def Suf (t n : Nat) : List (List UInt8) := [[116, 105, 99, 107, 32] ++ d2 n, [115, 101, 114, 118, 101, 32] ++ dN t ++ [32] ++ dN (4 + 2 * t), [97, 99, 99, 101, 112, 116, 115], [116, 114, 117, 116, 104]]
def Txt (t op n : Nat) : List UInt8 := (((((((((((((((([102, 108, 111, 119, 32, 48, 32] : List UInt8) ++ dN t) ++ [32, 55, 32, 50, 53, 53, 32, 52, 48, 32]) ++ dN op) ++ [10, 97, 99, 99, 101, 112, 116, 115, 10, 116, 114, 117, 116, 104, 10, 115, 101, 114, 118, 101, 32]) ++ dN t) ++ [32]) ++ dN (4 + 2 * t)) ++ [10, 107, 110, 111, 119, 115, 32, 49, 48, 52, 10, 108, 101, 97, 107, 32, 49, 10, 107, 110, 111, 119, 115, 32, 49, 48, 50, 10, 114, 101, 115, 116, 97, 114, 116, 32]) ++ dN t) ++ [10, 116, 105, 99, 107, 32]) ++ d2 n) ++ [10, 115, 101, 114, 118, 101, 32]) ++ dN t) ++ [32]) ++ dN (4 + 2 * t)) ++ [10, 97, 99, 99, 101, 112, 116, 115, 10, 116, 114, 117, 116, 104, 10]
def An (t op : Nat) : List UInt8 := (([49, 32, 48, 32] ++ dN t) ++ [32]) ++ dN op
def Out (t op n : Nat) : List UInt8 := ((((([121, 101, 115, 10] ++ An t op) ++ [10, 121, 101, 115, 10, 51, 10, 110, 111, 10, 48, 10, 121, 101, 115, 10, 48, 10]) ++ d2 n) ++ [10, 51, 10]) ++ An t op) ++ [10, 121, 101, 115, 10]
def chk (t op : Nat) : Bool := match W0.bind fun w => runsW 1000 (Pre t op) [] w with
 | some (o, w) => (List.range 30).all fun n => linesOf (Txt t op n) == some (Pre t op ++ Suf t n) && Nat.ble (Txt t op n).length 20000 && runsX 992 (Suf t n) o w == some (Out t op n)
 | none => false
theorem chk_desk {t op n : Nat} (h : chk t op = true) (hn : n < 30) : I_Desk 1000 (Txt t op n) = some (Out t op n) := by
 unfold chk at h
 split at h
 ·rename_i o w hw
  have := List.all_eq_true.1 h n (List.mem_range.2 hn)
  simp only [Bool.and_eq_true, beq_iff_eq] at this
  obtain ⟨⟨h1, h2⟩, h3⟩ := this
  rw [Desk_eq h1 (Nat.le_of_ble_eq_true h2) (by simp [Pre, Suf])]
  have e : ∀ w, runsX 1000 (Pre t op ++ Suf t n) [] w = (runsW 1000 (Pre t op) [] w).bind fun q => runsX 992 (Suf t n) q.1 q.2 := fun w => runs_app 1000 (Pre t op) (Suf t n) [] w (by simp [Pre])
  simp only [e, ← Option.bind_assoc, hw, Option.bind_some, h3]
 ·cases h
end Go.Proofs.YtnbjjmnohlnplaaGreat.M
