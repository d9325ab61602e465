/- At the desk user 0 gets to each service that lies on a way: all inputs come to 720 texts, each of which is looked at. -/
import Derived.Test.YtnbjjmnohlnplaaGreatQDwc00
import Derived.Test.YtnbjjmnohlnplaaGreatQDwc01
import Derived.Test.YtnbjjmnohlnplaaGreatQDwc10
import Derived.Test.YtnbjjmnohlnplaaGreatQDwc11
import Derived.Test.YtnbjjmnohlnplaaGreatQDwc20
import Derived.Test.YtnbjjmnohlnplaaGreatQDwc21
namespace Go.Proofs.YtnbjjmnohlnplaaGreat.M
open Go Go.MG
set_option linter.unusedVariables false
set_option linter.unusedSimpArgs false
set_option maxRecDepth 1000000
theorem all_ok (t op : Nat) (ht : t < 3) (ho : op < 8) : chk t op = true := by
 have h1 : t = 0 ∨ t = 1 ∨ t = 2 := by omega
 have h2 : op = 0 ∨ op = 1 ∨ op = 2 ∨ op = 3 ∨ op = 4 ∨ op = 5 ∨ op = 6 ∨ op = 7 := by omega
 rcases h1 with rfl | rfl | rfl
 ·rcases h2 with rfl | rfl | rfl | rfl | rfl | rfl | rfl | rfl
  ·exact chk_0_0
  ·exact chk_0_1
  ·exact chk_0_2
  ·exact chk_0_3
  ·exact chk_0_4
  ·exact chk_0_5
  ·exact chk_0_6
  ·exact chk_0_7
 ·rcases h2 with rfl | rfl | rfl | rfl | rfl | rfl | rfl | rfl
  ·exact chk_1_0
  ·exact chk_1_1
  ·exact chk_1_2
  ·exact chk_1_3
  ·exact chk_1_4
  ·exact chk_1_5
  ·exact chk_1_6
  ·exact chk_1_7
 ·rcases h2 with rfl | rfl | rfl | rfl | rfl | rfl | rfl | rfl
  ·exact chk_2_0
  ·exact chk_2_1
  ·exact chk_2_2
  ·exact chk_2_3
  ·exact chk_2_4
  ·exact chk_2_5
  ·exact chk_2_6
  ·exact chk_2_7
theorem cs {α : Type} {n : Nat} (A : Option α) (h : n ≤ 9223372036854775807) : cond (decide (n ≤ 9223372036854775807)) A none = A := by rw [decide_eq_true h]; rfl
theorem dec1 {n : Nat} (h : n < 10) : S_Dec 1000 (n : Int) = some (dN n) := by
 have : ((List.range 10).all fun n => S_Dec 1000 (n : Int) == some (dN n)) = true := by decide +kernel
 simpa using List.all_eq_true.1 this n (List.mem_range.2 h)
theorem dec2 {n : Nat} (h : n < 30) : S_Dec 1000 (n : Int) = some (d2 n) := by
 have : ((List.range 30).all fun n => S_Dec 1000 (n : Int) == some (d2 n)) = true := by decide +kernel
 simpa using List.all_eq_true.1 this n (List.mem_range.2 h)
theorem d2_len (n : Nat) : (d2 n).length ≤ 2 := by
 unfold d2; cases Nat.blt n 10 <;> simp [dN]
theorem modN (r m : Nat) : Int.tmod (r : Int) (m : Int) = ((r % m : Nat) : Int) := by
 rw [Int.tmod_eq_emod_of_nonneg (by omega)]; rfl
theorem at_ok {a0 : List UInt8} (h : (a0.length : Int) ≤ 1048576) (i : Nat) (hi : i ≤ 10) : ∃ r : Nat, W_at 1000 a0 (i : Int) = some (r : Int) := by
 unfold W_at
 by_cases hl : i < a0.length
 ·rw [decide_eq_true (by omega)]
  exact ⟨a0[i].toNat, by simp [at?, hl]⟩
 ·rw [decide_eq_false (by omega), wid (n := (i : Int) * 37) (by omega) (by omega), wid (n := (a0.length : Int) * 11) (by omega) (by omega), wid (by omega) (by omega)]
  rw [show (i : Int) * 37 + (a0.length : Int) * 11 = ((i * 37 + a0.length * 11 : Nat) : Int) by omega]
  exact ⟨_, congrArg some (modN _ 256)⟩
theorem lawDeskWorks (a0 : List UInt8) (w0 : wfR (fun _ => True) a0) : ∃ k, W_FnDeskWorks k a0 = some true := by
 refine ⟨1000, ?_⟩
 unfold W_FnDeskWorks W_big
 by_cases hb : (a0.length : Int) > 1048576
 ·simp [hb]
 ·obtain ⟨x, hx⟩ := at_ok (a0 := a0) (by omega) 0 (by omega)
  obtain ⟨y, hy⟩ := at_ok (a0 := a0) (by omega) 1 (by omega)
  obtain ⟨z, hz⟩ := at_ok (a0 := a0) (by omega) 2 (by omega)
  have ex := modN x 3; have ey := modN y 8; have ez := modN z 30
  have lx : x % 3 < 3 := Nat.mod_lt _ (by decide)
  have ly : y % 8 < 8 := Nat.mod_lt _ (by decide)
  have lz : z % 30 < 30 := Nat.mod_lt _ (by decide)
  revert ex ey ez lx ly lz
  generalize x % 3 = t
  generalize y % 8 = op
  generalize z % 30 = n
  intro ex ey ez lx ly lz
  have e4 : IntKind.i64.wrap (4 + (IntKind.i64.wrap (2 * (t : Int)))) = ((4 + 2 * t : Nat) : Int) := by
   rw [wid (n := 2 * (t : Int)) (by omega) (by omega), wid (by omega) (by omega)]; omega
  have hD := chk_desk (n := n) (all_ok t op lx ly) lz
  have l2 := d2_len n
  simp only [Txt] at hD
  rw [decide_eq_false hb]
  have hx' : W_at 1000 a0 0 = some (x : Int) := hx
  have hy' : W_at 1000 a0 1 = some (y : Int) := hy
  have hz' : W_at 1000 a0 2 = some (z : Int) := hz
  have ex' : Int.tmod (x : Int) 3 = (t : Int) := ex
  have ey' : Int.tmod (y : Int) 8 = (op : Int) := ey
  have ez' : Int.tmod (z : Int) 30 = (n : Int) := ez
  simp only [Option.bind_some, cond_false, hx', hy', hz', ex', ey', ez', e4, dec1 (show op < 10 by omega), dec1 (show t < 10 by omega), dec1 (show 4 + 2 * t < 10 by omega), dec2 lz]
  repeat rw [cs _ (by simp only [List.length_append, List.length_cons, List.length_nil, dN]; omega)]
  rw [hD]
  simp only [Option.bind_some]
  repeat rw [cs _ (by simp only [List.length_append, List.length_cons, List.length_nil, dN]; omega)]
  simp [Out, An]
end Go.Proofs.YtnbjjmnohlnplaaGreat.M
