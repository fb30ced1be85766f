/-
  The smallest functions of chapter 12 and of the document's answer to it: what a push is; digits of a number.
-/
import Derived.Test.YtnachjhhbhhpoaaDoorRows
import Derived.Test.YtnachjhhbhhpoaaDoorOpT
import Derived.Test.YtnachjhhbhhpoaaDoorLib
import Derived.WalkKit
import Derived.WalkSpells
import Derived.WalkLawsBesides
import Derived.Lib.Hide
import Derived.Below
import Derived.Outline
namespace Go.Proofs.YtnachjhhbhhpoaaDoor
open Go.RowKit
/-- Is a code a push? -/
def isPush (n : Int) : Bool := decide (95 ≤ n ∧ n ≤ 127)
/-- How many bytes follow. -/
def pushN (n : Int) : Int := if 95 ≤ n ∧ n ≤ 127 then n - 95 else 0
theorem isPush_yes {n : Int} (h : 95 ≤ n) (h' : n ≤ 127) : isPush n = true := by unfold isPush; simp; omega
theorem isPush_no {n : Int} (h : n < 95 ∨ 127 < n) : isPush n = false := by unfold isPush; simp; omega
theorem pushN_yes {n : Int} (h : 95 ≤ n) (h' : n ≤ 127) : pushN n = n - 95 := by unfold pushN; rw [if_pos ⟨h, h'⟩]
theorem pushN_no {n : Int} (h : n < 95 ∨ 127 < n) : pushN n = 0 := by unfold pushN; rw [if_neg (by omega)]
theorem pushN_range (n : Int) : 0 ≤ pushN n ∧ pushN n ≤ 32 := by unfold pushN; split <;> omega

theorem ret2 {k : IntKind} {a b : Int} {x y : Bool} (h : a = b) (h' : x = y) : Ending.returned (.tuple #[.int k a, .bool x]) = .returned (.tuple #[.int k b, .bool y]) := by rw [h, h']

set_option maxHeartbeats 400000 in
theorem push_any (n : Int) (w : World) (h0 : 0 ≤ n) (h1 : n ≤ 255) :
    Calls Tryd.prog 13 #[.int .u8 n] w fun e w' => e = .returned (.tuple #[.int .i64 (pushN n), .bool (isPush n)]) ∧ w = w' := by
  go_enter Tryd.func13, Tryd.ntmps13
  go_wp2
  all_goals go_ret2
  · exact ⟨ret2 (pushN_no (by omega)).symm (isPush_no (by omega)).symm, rfl⟩
  · exact ⟨ret2 (by rw [pushN_yes (by omega) (by omega)]) (isPush_yes (by omega) (by omega)).symm, rfl⟩
  · exact ⟨ret2 (pushN_no (by omega)).symm (isPush_no (by omega)).symm, rfl⟩

set_option maxHeartbeats 400000 in
theorem refPush_any (n : Int) (w : World) (h0 : 0 ≤ n) (h1 : n ≤ 255) :
    Calls Tryd.prog 14 #[.int .u8 n] w fun e w' => e = .returned (.tuple #[.int .i64 (pushN n), .bool (isPush n)]) ∧ w = w' := by
  go_enter Tryd.func14, Tryd.ntmps14
  go_wp2
  all_goals go_ret2
  · exact ⟨ret2 (pushN_no (by omega)).symm (isPush_no (by omega)).symm, rfl⟩
  · exact ⟨ret2 (by rw [pushN_yes (by omega) (by omega)]) (isPush_yes (by omega) (by omega)).symm, rfl⟩
  · exact ⟨ret2 (pushN_no (by omega)).symm (isPush_no (by omega)).symm, rfl⟩

/-- A number below 100, told. -/
def dig (n : Nat) : List UInt8 := if n < 10 then [UInt8.ofNat (48 + n)] else [UInt8.ofNat (48 + n / 10), UInt8.ofNat (48 + n % 10)]

theorem dig_lo {n : Nat} (h : n < 10) : strOfNums [48 + (n : Int)] = ⟨(dig n).toArray⟩ := by
  unfold dig; rw [if_pos h]
  rw [strOfNums_str]; unfold str
  simp only [List.map_cons, List.map_nil]
  rw [show ((48 : Int) + n).toNat = 48 + n from by omega]
theorem dig_hi {n : Nat} (h : ¬ n < 10) : strOfNums [48 + (n : Int) / 10, 48 + (n : Int) % 10] = ⟨(dig n).toArray⟩ := by
  unfold dig; rw [if_neg h]
  rw [strOfNums_str]; unfold str
  simp only [List.map_cons, List.map_nil]
  rw [show ((48 : Int) + n / 10).toNat = 48 + n / 10 from by omega, show ((48 : Int) + n % 10).toNat = 48 + n % 10 from by omega]

set_option maxHeartbeats 400000 in
set_option maxRecDepth 100000 in
theorem digits_any (n : Nat) (w : World) (h1 : n < 100) :
    Calls Tryd.prog 31 #[.int .i64 (n : Int)] w fun e w' => e = .returned (.string ⟨(dig n).toArray⟩) ∧ Below w.heap.size w w' := by
  by_cases h : n < 10
  · have hc := fun (W : World) (a : Int) => run_convert_newest (P := Tryd.prog) W 42 9 5 5 Tryd.underlying42 Tryd.underlying5 Tryd.underlying9 [a] 1 1 rfl
    simp only [List.map_cons, List.map_nil] at hc
    go_enter Tryd.func31, Tryd.ntmps31
    go_wp2
    go_ret
    exact ⟨rets (dig_lo h), (Below.refl _ _).alloc (Nat.le_refl _) _⟩
  · have hc := fun (W : World) (a b : Int) => run_convert_newest (P := Tryd.prog) W 42 9 5 5 Tryd.underlying42 Tryd.underlying5 Tryd.underlying9 [a, b] 2 2 rfl
    simp only [List.map_cons, List.map_nil] at hc
    go_enter Tryd.func31, Tryd.ntmps31
    go_wp2
    go_ret
    exact ⟨rets (dig_hi h), (Below.refl _ _).alloc (Nat.le_refl _) _⟩
end Go.Proofs.YtnachjhhbhhpoaaDoor
