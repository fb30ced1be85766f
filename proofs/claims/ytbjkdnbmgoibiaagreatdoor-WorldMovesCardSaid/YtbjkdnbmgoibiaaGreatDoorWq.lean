/-
  Equality of words, of accounts.
-/
import Derived.Test.YtbjkdnbmgoibiaaGreatDoorWs
import Derived.Laws.StructEq
namespace Go.Proofs.YtbjkdnbmgoibiaaGreatDoor
open Go.RowKit Go.MapKept
theorem wd_ext {x y : Wd} (h1 : x.a = y.a) (h2 : x.b = y.b) (h3 : x.c = y.c) (h4 : x.d = y.d) : x = y := by
  cases x; cases y
  simp only [Wd.mk.injEq]
  exact ⟨h1, h2, h3, h4⟩
theorem word_in (d : Nat) (x y : Wd) (W : World) : (Op.equalIn (d + 2) 24 (wv x) (wv y)).run Tryz.prog W = .ok (decide (x = y)) W := by
  rw [run_equalIn_agg W (d + 1) _ _ _ (by kernel_rfl) (by kernel_rfl)]
  by_cases h1 : x.a = y.a
  · by_cases h2 : x.b = y.b
    · by_cases h3 : x.c = y.c
      · by_cases h4 : x.d = y.d
        · obtain rfl := wd_ext h1 h2 h3 h4
          go_simp
        · have e : ¬ x = y := fun e => h4 (by rw [e])
          go_simp
          omega
      · have e : ¬ x = y := fun e => h3 (by rw [e])
        go_simp
        omega
    · have e : ¬ x = y := fun e => h2 (by rw [e])
      go_simp
      omega
  · have e : ¬ x = y := fun e => h1 (by rw [e])
    go_simp
    omega
theorem word_eql (x y : Wd) (W : World) : (binOp .eql 24 (wv x) (wv y)).run Tryz.prog W = .ok (.bool (decide (x = y))) W := by
  rw [run_eql_struct, word_in 9998]; rfl
theorem word_neq (x y : Wd) (W : World) : (binOp .neq 24 (wv x) (wv y)).run Tryz.prog W = .ok (.bool (!decide (x = y))) W := by
  rw [run_neq_struct, word_in 9998]; rfl
theorem acc_same (x : Ac) (W : World) : (binOp .eql 33 (acv x) (acv x)).run Tryz.prog W = .ok (.bool true) W := by
  rw [run_eql_struct, run_equalIn_agg W 9999 _ _ _ (by kernel_rfl) (by kernel_rfl)]
  go_simp
end Go.Proofs.YtbjkdnbmgoibiaaGreatDoor
