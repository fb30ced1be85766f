/-
  The examples ahead of each statement.
-/
import Derived.Test.YtnachjhhbhhpoaaDoorOpO
import Derived.Test.YtnachjhhbhhpoaaDoorOpK
import Derived.Test.YtnachjhhbhhpoaaDoorOpF
namespace Go.Proofs.YtnachjhhbhhpoaaDoor
open Go.RowKit Go.Shelf
/-- An own row with something in it: its cells are known. -/
theorem own_cells {w : World} {base e n : Nat} {v : Value} {xs : List Value} (h : w.ownsRow base e 1 v n xs) (hn : 0 < n) : ∃ g cap, v = .slice (some ⟨g, 0, none⟩) n cap ∧ base ≤ g ∧ g < w.heap.size ∧ n ≤ cap ∧ ∀ j u, xs[j]? = some u → w.cell? ⟨g, j, none⟩ = some u := by
  obtain ⟨hl, ⟨_, h0⟩ | ⟨g, cap, cur, rfl, hg, hb, h1, h2, h3, h4⟩⟩ := h
  · omega
  · refine ⟨g, cap, rfl, hg, (Array.getElem?_eq_some_iff.1 hb).1, h1, fun j u hj => ?_⟩
    rw [cell_of hb j, ← Array.getElem?_toList]
    rw [← h4, List.getElem?_take] at hj
    split at hj
    · exact hj
    · cases hj

set_option maxHeartbeats 4000000 in
set_option maxRecDepth 100000 in
theorem examples_any (m : Int) (w : World) (hm : w.cell? ⟨2, 0, none⟩ = some (.int .i64 m)) :
    Calls Tryd.prog 8 #[] w fun e w' => e = .returned (.bool true) ∧ Below w.heap.size w w' := by
  have hms := cell_lt hm
  have Hm := Lib.hid hm; clear hm
  go_enter Tryd.func8, Tryd.ntmps8
  go_wp2_with fail
  refine (of_any 1 m _ Hm.out).mono ?_
  rintro e w1 ⟨rfl, hb1⟩
  have e1 : infv (infOf 1) = .agg #[.string ⟨#[65, 68, 68]⟩, .int .u64 3, .int .i64 2, .int .i64 1] := by kernel_rfl
  have e2 : known 1 = true := by decide +kernel
  rw [e1, e2]
  clear e1 e2
  go_wp2_with fail
  obtain ⟨w2, hw2⟩ : ∃ w2, w2 = w1.alloc (.cells #[.string ⟨#[65, 68, 68]⟩, .int .u64 3, .int .i64 2, .int .i64 1] 25) := ⟨_, rfl⟩
  have hs1 := hb1.size
  have hb2 : Below w.heap.size w w2 := by rw [hw2]; exact hb1.alloc (by omega) _
  have hc2 : w2.heap[w1.heap.size]? = some (.cells #[.string ⟨#[65, 68, 68]⟩, .int .u64 3, .int .i64 2, .int .i64 1] 25 (0, 0)) := by rw [hw2]; exact Array.getElem?_push_size
  have hz2 : w2.heap.size = w1.heap.size + 1 := by rw [hw2]; simp
  rw [← hw2]
  clear hw2 hb1
  obtain ⟨r, hr⟩ : ∃ r, r = w1.heap.size := ⟨_, rfl⟩
  rw [← hr] at hc2 hz2 hs1
  rw [← hr]
  clear hr
  refine (code_any ⟨#[80, 85, 83, 72, 51, 50]⟩ m w2 (by rw [hb2.cell (p := ⟨2, 0, none⟩) hms]; exact Hm.out)).mono ?_
  rintro e w3 ⟨rfl, hb3⟩
  have e1 : codeOf (ByteArray.mk #[80, 85, 83, 72, 51, 50]).data.toList = 127 := by decide +kernel
  have e2 : named (ByteArray.mk #[80, 85, 83, 72, 51, 50]).data.toList = true := by decide +kernel
  rw [e1, e2]
  clear e1 e2
  have hs3 := hb3.size
  go_wp2_with fail
  refine (jumps_any ⟨#[96, 91, 91]⟩ w3 (by decide)).mono ?_
  rintro e w4 ⟨vj, rfl, hj, hb4⟩
  have e1 : jumpsOf (ByteArray.mk #[96, 91, 91]).data.toList (begins (ByteArray.mk #[96, 91, 91]).data.toList) = [2] := by decide +kernel
  rw [e1] at hj
  clear e1
  have hs4 := hb4.size
  obtain ⟨gj, capj, rfl, hgj, hgj', hcj, hxj⟩ := own_cells hj (by decide)
  go_wp2_with fail
  refine (push_any 127 w4 (by omega) (by omega)).mono ?_
  rintro e w5 ⟨rfl, rfl⟩
  have e1 : pushN 127 = 32 := by decide +kernel
  have e2 : isPush 127 = true := by decide +kernel
  rw [e1, e2]
  clear e1 e2
  go_wp2_with fail
  have q3 : 2 < w3.heap.size := by omega
  have q2 : 2 < w2.heap.size := by omega
  refine (text_any ⟨#[97, 1]⟩ m w4 (by rw [hb4.cell (p := ⟨2, 0, none⟩) q3, hb3.cell (p := ⟨2, 0, none⟩) q2, hb2.cell (p := ⟨2, 0, none⟩) hms]; exact Hm.out) (by decide)).mono ?_
  rintro e w5 ⟨vt, rfl, ht, hb5⟩
  have e1 : begins (ByteArray.mk #[97, 1]).data.toList = [0] := by decide +kernel
  rw [e1] at ht
  have e2 : textOf (ByteArray.mk #[97, 1]).data.toList [0] = [[80, 85, 83, 72, 50, 32, 48, 120, 48, 49]] := by decide +kernel
  rw [e2] at ht
  clear e1 e2
  have hs5 := hb5.size
  obtain ⟨gt, capt, rfl, hgt, hgt', hct, hxt⟩ := own_cells ht (by decide)
  have x0 : w5.cell? ⟨gt, 0, none⟩ = some (.string ⟨#[80, 85, 83, 72, 50, 32, 48, 120, 48, 49]⟩) := hxt 0 _ rfl
  have y0 : w5.cell? ⟨gj, 0, none⟩ = some (.int .i64 2) := by rw [hb5.cell (p := ⟨gj, 0, none⟩) hgj']; exact hxj 0 _ rfl
  have hc5 : w5.heap[r]? = some (.cells #[.string ⟨#[65, 68, 68]⟩, .int .u64 3, .int .i64 2, .int .i64 1] 25 (0, 0)) := by
    rw [hb5.block _ (by omega), hb4.block _ (by omega), hb3.block _ (by omega)]; exact hc2
  have z0 : w5.cell? ⟨r, 0, none⟩ = some (.string ⟨#[65, 68, 68]⟩) := cell_of hc5 0
  have z1 : w5.cell? ⟨r, 1, none⟩ = some (.int .u64 3) := cell_of hc5 1
  have z2 : w5.cell? ⟨r, 2, none⟩ = some (.int .i64 2) := cell_of hc5 2
  have z3 : w5.cell? ⟨r, 3, none⟩ = some (.int .i64 1) := cell_of hc5 3
  have hB : Below w.heap.size w w5 := ((hb2.trans (hb3.mono (by omega))).trans (hb4.mono (by omega))).trans (hb5.mono (by omega))
  have HB := Lib.hid hB
  clear hb2 hb3 hb4 hb5 hB hj ht hxj hxt hc2 hc5
  go_wp2_with fail
  go_ret
  exact ⟨rfl, HB.out⟩

set_option maxHeartbeats 8000000 in
set_option maxRecDepth 100000 in
theorem opInfos_any (n : Nat) (s : ByteArray) (m : Int) (w : World) (hn : n < 256) (hm : w.cell? ⟨2, 0, none⟩ = some (.int .i64 m)) :
    Calls Tryd.prog 3 #[.int .u8 (n : Int), .string s] w fun e w' => e = .returned (.bool true) ∧ Below w.heap.size w w' := by
  have hms := cell_lt hm
  have Hm := Lib.hid hm; clear hm
  go_enter Tryd.func3, Tryd.ntmps3
  go_wp2_with fail
  refine (examples_any m _ Hm.out).mono ?_
  rintro e w1 ⟨rfl, hb1⟩
  have hs1 := hb1.size
  have hc1 : w1.cell? ⟨2, 0, none⟩ = some (.int .i64 m) := by rw [hb1.cell (p := ⟨2, 0, none⟩) hms]; exact Hm.out
  go_wp2_with fail
  refine (of_any n m _ hc1).mono ?_
  rintro e w2 ⟨rfl, hb2⟩
  obtain ⟨x, hx⟩ : ∃ x, x = infOf n := ⟨_, rfl⟩
  obtain ⟨ok, hok⟩ : ∃ ok, ok = known n := ⟨_, rfl⟩
  rw [← hx, ← hok]
  have hs2 := hb2.size
  have Hx := Lib.hid (And.intro hx hok); clear hx hok
  unfold infv
  go_wp2_with fail
  obtain ⟨C, hC⟩ : ∃ C : Array Value, C = #[.string ⟨x.name.toArray⟩, .int .u64 (x.gas : Int), .int .i64 (x.inn : Int), .int .i64 (x.out : Int)] := ⟨_, rfl⟩
  obtain ⟨w3, hw3⟩ : ∃ w3, w3 = w2.alloc (.cells C 25) := ⟨_, rfl⟩
  have hB3 : Below w.heap.size w w3 := by rw [hw3]; exact (hb1.trans (hb2.mono hs1)).alloc (by omega) _
  have hc3 : w3.heap[w2.heap.size]? = some (.cells C 25 (0, 0)) := by rw [hw3]; exact Array.getElem?_push_size
  have hz3 : w3.heap.size = w2.heap.size + 1 := by rw [hw3]; simp
  rw [← hC, ← hw3]
  obtain ⟨r, hr⟩ : ∃ r, r = w2.heap.size := ⟨_, rfl⟩
  rw [← hr] at hc3 hz3 hs2
  rw [← hr]
  clear hr hb1 hb2 hc1 hw3
  refine (refOf_any n w3 hn).mono ?_
  rintro e w4 ⟨rfl, hb4⟩
  rw [← Hx.out.1, ← Hx.out.2]
  have HC := Lib.hid hC; clear hC
  have hs4 := hb4.size
  unfold infv
  go_wp2_with fail
  rw [← HC.out]
  obtain ⟨w5, hw5⟩ : ∃ w5, w5 = w4.alloc (.cells C 28) := ⟨_, rfl⟩
  have hB5 : Below w.heap.size w w5 := by rw [hw5]; exact (hB3.trans (hb4.mono (by omega))).alloc (by omega) _
  have hc5 : w5.heap[w4.heap.size]? = some (.cells C 28 (0, 0)) := by rw [hw5]; exact Array.getElem?_push_size
  have hc53 : w5.heap[r]? = some (.cells C 25 (0, 0)) := by rw [hw5, alloc_block (by omega), hb4.block _ (by omega)]; exact hc3
  have hz5 : w5.heap.size = w4.heap.size + 1 := by rw [hw5]; simp
  rw [← hw5]
  obtain ⟨r', hr⟩ : ∃ r, r = w4.heap.size := ⟨_, rfl⟩
  rw [← hr] at hc5 hz5 hs4
  rw [← hr]
  clear hr hb4 hw5 hc3 hB3
  have hm5 : w5.cell? ⟨2, 0, none⟩ = some (.int .i64 m) := by rw [hB5.cell (p := ⟨2, 0, none⟩) hms]; exact Hm.out
  refine (code_any s m w5 hm5).mono ?_
  rintro e w6 ⟨rfl, hb6⟩
  obtain ⟨k, hk⟩ : ∃ k : Int, k = (codeOf s.data.toList : Int) := ⟨_, rfl⟩
  obtain ⟨is, his⟩ : ∃ is, is = named s.data.toList := ⟨_, rfl⟩
  rw [← hk, ← his]
  have Hk := Lib.hid (And.intro hk his); clear hk his
  have hs6 := hb6.size
  go_wp2_with fail
  refine (refCode_any s w6).mono ?_
  rintro e w7 ⟨rfl, hb7⟩
  rw [← Hk.out.1, ← Hk.out.2]
  have hs7 := hb7.size
  go_wp2_with fail
  refine (push_any (n : Int) w7 (by omega) (by omega)).mono ?_
  rintro e w8 ⟨rfl, rfl⟩
  obtain ⟨pn, hpn⟩ : ∃ pn, pn = pushN (n : Int) := ⟨_, rfl⟩
  obtain ⟨ip, hip⟩ : ∃ ip, ip = isPush (n : Int) := ⟨_, rfl⟩
  rw [← hpn, ← hip]
  have Hp := Lib.hid (And.intro hpn hip); clear hpn hip
  go_wp2_with fail
  refine (refPush_any (n : Int) w7 (by omega) (by omega)).mono ?_
  rintro e w8 ⟨rfl, rfl⟩
  rw [← Hp.out.1, ← Hp.out.2]
  have hc7 : w7.heap[r]? = some (.cells C 25 (0, 0)) := by rw [hb7.block _ (by omega), hb6.block _ (by omega)]; exact hc53
  have hc7' : w7.heap[r']? = some (.cells C 28 (0, 0)) := by rw [hb7.block _ (by omega), hb6.block _ (by omega)]; exact hc5
  rw [HC.out] at hc7 hc7'
  have z0 : w7.cell? ⟨r, 0, none⟩ = some (.string ⟨x.name.toArray⟩) := cell_of hc7 0
  have z1 : w7.cell? ⟨r, 1, none⟩ = some (.int .u64 (x.gas : Int)) := cell_of hc7 1
  have z2 : w7.cell? ⟨r, 2, none⟩ = some (.int .i64 (x.inn : Int)) := cell_of hc7 2
  have z3 : w7.cell? ⟨r, 3, none⟩ = some (.int .i64 (x.out : Int)) := cell_of hc7 3
  have y0 : w7.cell? ⟨r', 0, none⟩ = some (.string ⟨x.name.toArray⟩) := cell_of hc7' 0
  have y1 : w7.cell? ⟨r', 1, none⟩ = some (.int .u64 (x.gas : Int)) := cell_of hc7' 1
  have y2 : w7.cell? ⟨r', 2, none⟩ = some (.int .i64 (x.inn : Int)) := cell_of hc7' 2
  have y3 : w7.cell? ⟨r', 3, none⟩ = some (.int .i64 (x.out : Int)) := cell_of hc7' 3
  have HB := Lib.hid ((hB5.trans (hb6.mono (by omega))).trans (hb7.mono (by omega)))
  clear hB5 hb6 hb7 hc7 hc7' hc53 hc5
  go_wp2_with fail
  go_ret
  exact ⟨rfl, HB.out⟩
end Go.Proofs.YtnachjhhbhhpoaaDoor
