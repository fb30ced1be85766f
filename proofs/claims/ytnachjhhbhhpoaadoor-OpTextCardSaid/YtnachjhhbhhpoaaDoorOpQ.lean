/-
  OpTexts: the walk.
-/
import Derived.Test.YtnachjhhbhhpoaaDoorOpP
namespace Go.Proofs.YtnachjhhbhhpoaaDoor
open Go.RowKit Go.Shelf
/-- An own row as a slice, whatever its length. -/
theorem own_slice {w : World} {base e n : Nat} {v : Value} {xs : List Value} (h : w.ownsRow base e 1 v n xs) : ∃ p cap, v = .slice p n cap ∧ n ≤ cap ∧ (0 < n → ∃ g, p = some ⟨g, 0, none⟩ ∧ base ≤ g ∧ g < w.heap.size ∧ ∀ j u, xs[j]? = some u → w.cell? ⟨g, j, none⟩ = some u) := by
  by_cases hn : 0 < n
  · obtain ⟨g, cap, rfl, h1, h2, h3, h4⟩ := own_cells h hn
    exact ⟨_, _, rfl, h3, fun _ => ⟨g, rfl, h1, h2, h4⟩⟩
  · obtain ⟨_, ⟨rfl, rfl⟩ | ⟨g, cap, cur, rfl, hg, hb, h1, h2, h3, h4⟩⟩ := h
    · exact ⟨none, 0, rfl, Nat.le_refl _, fun h => absurd h hn⟩
    · exact ⟨_, _, rfl, h1, fun h => absurd h hn⟩
theorem own_len {w : World} {base e n : Nat} {v : Value} {xs : List Value} (h : w.ownsRow base e 1 v n xs) : n ≤ 9223372036854775807 := by
  obtain ⟨_, ⟨_, rfl⟩ | ⟨g, cap, cur, _, _, _, h1, h2, _⟩⟩ := h
  · omega
  · exact Nat.le_trans h1 h2
theorem nats_get {p : List Nat} {i : Nat} (h : i < p.length) : (nats p)[i]? = some (.int .i64 ((p[i]'h : Nat) : Int)) := by
  unfold nats; simp [h]
theorem strs_get {p : List (List UInt8)} {i : Nat} (h : i < p.length) : (strs' p)[i]? = some (.string ⟨(p[i]'h).toArray⟩) := by
  unfold strs'; simp [h]
set_option maxHeartbeats 8000000 in
set_option maxRecDepth 100000 in
theorem opTexts_any (s : ByteArray) (m : Int) (w : World) (hm : w.cell? ⟨2, 0, none⟩ = some (.int .i64 m)) :
    Calls Tryd.prog 4 #[.string s] w fun e w' => e = .returned (.bool true) ∧ Below w.heap.size w w' := by
  have hms := cell_lt hm
  have Hm := Lib.hid hm; clear hm
  go_enter Tryd.func4, Tryd.ntmps4
  go_wp2_with fail
  refine (examples_any m _ Hm.out).mono ?_
  rintro e w1 ⟨rfl, hb1⟩
  have hs1 := hb1.size
  have hc1 : w1.cell? ⟨2, 0, none⟩ = some (.int .i64 m) := by rw [hb1.cell (p := ⟨2, 0, none⟩) hms]; exact Hm.out
  go_wp2_with fail
  obtain ⟨t, ht⟩ : ∃ t, t = s.extract 0 (min (s.size : Int) 200).toNat := ⟨_, rfl⟩
  have htz : t.size ≤ 200 := by rw [ht, ByteArray.size_extract]; omega
  rw [← ht]
  clear ht
  refine (jumps_any t w1 (by omega)).mono ?_
  rintro e w2 ⟨va, rfl, ha, hb2⟩
  have hs2 := hb2.size
  have hla := own_len ha
  obtain ⟨pa, ca, rfl, hca, ga⟩ := own_slice ha
  have Ga := Lib.hid ga; clear ga ha
  go_wp2_with fail
  refine (refJumps_any t w2 (by omega)).mono ?_
  rintro e w3 ⟨vb, rfl, hb, hb3⟩
  have hs3 := hb3.size
  obtain ⟨pb, cb, rfl, hcb, gb⟩ := own_slice hb
  have Gb := Lib.hid gb; clear gb hb
  have hc3 : w3.cell? ⟨2, 0, none⟩ = some (.int .i64 m) := by
    rw [hb3.cell (p := ⟨2, 0, none⟩) (by simp; omega), hb2.cell (p := ⟨2, 0, none⟩) (by simp; omega)]; exact hc1
  have HB3 := Lib.hid ((hb1.trans (hb2.mono (by omega))).trans (hb3.mono (by omega)))
  have h23 := Lib.hid hb3
  clear hb1 hb2 hb3 hc1
  go_wp2_with fail
  refine (text_any t m w3 hc3 (by omega)).mono ?_
  rintro e w4 ⟨vc, rfl, hc, hb4⟩
  have hs4 := hb4.size
  have hlc := own_len hc
  obtain ⟨pc, cc, rfl, hcc, gc⟩ := own_slice hc
  have Gc := Lib.hid gc; clear gc hc
  have h34 := Lib.hid hb4; clear hb4 hc3
  go_wp2_with fail
  refine (refText_any t w4 (by omega)).mono ?_
  rintro e w5 ⟨vd, rfl, hd, hb5⟩
  have hs5 := hb5.size
  obtain ⟨pd, cd, rfl, hcd, gd⟩ := own_slice hd
  have Gd := Lib.hid gd; clear gd hd
  have h25 : Hid (Below w2.heap.size w2 w5) := (h23.out.trans (h34.out.mono (by omega))).trans (hb5.mono (by omega))
  have h35 : Hid (Below w3.heap.size w3 w5) := (h34.out.trans (hb5.mono (by omega)))
  have h45 := Lib.hid hb5
  have HB5 : Hid (Below w.heap.size w w5) := (HB3.out.trans (h34.out.mono (by omega))).trans (hb5.mono (by omega))
  clear hb5 h23 h34 HB3
  obtain ⟨J, hJ⟩ : ∃ J, J = jumpsOf t.data.toList (begins t.data.toList) := ⟨_, rfl⟩
  obtain ⟨X, hX⟩ : ∃ X, X = textOf t.data.toList (begins t.data.toList) := ⟨_, rfl⟩
  have hXl : (begins t.data.toList).length = X.length := by rw [hX]; simp [textOf]
  rw [hXl] at hcc hcd Gc Gd hlc
  rw [← hX] at Gc Gd
  rw [hXl]
  rw [← hJ] at hca hcb Ga Gb hla
  rw [← hJ]
  clear hX hJ hXl
  have hFa : Hid (∀ i (h : i < J.length) (wr : World), Below w5.heap.size w5 wr → ∃ g, pa = some ⟨g, 0, none⟩ ∧ wr.cell? ⟨g, i, none⟩ = some (.int .i64 ((J[i]'h : Nat) : Int))) := by
    intro i h wr hw
    obtain ⟨g, e, _, hlt, hx⟩ := Ga.out (by omega)
    refine ⟨g, e, ?_⟩
    rw [hw.cell (p := ⟨g, i, none⟩) (by simp; omega), h25.out.cell (p := ⟨g, i, none⟩) hlt]
    exact hx _ _ (nats_get h)
  have hFb : Hid (∀ i (h : i < J.length) (wr : World), Below w5.heap.size w5 wr → ∃ g, pb = some ⟨g, 0, none⟩ ∧ wr.cell? ⟨g, i, none⟩ = some (.int .i64 ((J[i]'h : Nat) : Int))) := by
    intro i h wr hw
    obtain ⟨g, e, _, hlt, hx⟩ := Gb.out (by omega)
    refine ⟨g, e, ?_⟩
    rw [hw.cell (p := ⟨g, i, none⟩) (by simp; omega), h35.out.cell (p := ⟨g, i, none⟩) hlt]
    exact hx _ _ (nats_get h)
  have hFc : Hid (∀ i (h : i < X.length) (wr : World), Below w5.heap.size w5 wr → ∃ g, pc = some ⟨g, 0, none⟩ ∧ wr.cell? ⟨g, i, none⟩ = some (.string ⟨(X[i]'h).toArray⟩)) := by
    intro i h wr hw
    obtain ⟨g, e, _, hlt, hx⟩ := Gc.out (by omega)
    refine ⟨g, e, ?_⟩
    rw [hw.cell (p := ⟨g, i, none⟩) (by simp; omega), h45.out.cell (p := ⟨g, i, none⟩) hlt]
    exact hx _ _ (strs_get h)
  have hFd : Hid (∀ i (h : i < X.length) (wr : World), Below w5.heap.size w5 wr → ∃ g, pd = some ⟨g, 0, none⟩ ∧ wr.cell? ⟨g, i, none⟩ = some (.string ⟨(X[i]'h).toArray⟩)) := by
    intro i h wr hw
    obtain ⟨g, e, _, hlt, hx⟩ := Gd.out (by omega)
    refine ⟨g, e, ?_⟩
    rw [hw.cell (p := ⟨g, i, none⟩) (by simp; omega)]
    exact hx _ _ (strs_get h)
  clear Ga Gb Gc Gd h25 h35 h45
  go_wp2_with fail
  go_loopw [8] (fun vi wr => ∃ i : Nat, vi = .int .i64 i ∧ i ≤ J.length ∧ Hid (Below w5.heap.size w5 wr)) (fun vi _ => J.length - (intOf vi).toNat)
  case atStart => exact ⟨0, rfl, by omega, Below.refl _ _⟩
  case round =>
    obtain ⟨i, rfl, hi, HW⟩ := hrel
    by_cases hlt : i < J.length
    · obtain ⟨g, rfl, x0⟩ := hFa.out i hlt _ HW.out
      obtain ⟨g', rfl, y0⟩ := hFb.out i hlt _ HW.out
      go_wp2_with fail
      go_quiet (fail)
      go_wp2_with fail
      exact ⟨⟨i + 1, by go_num, by omega, below_drawn HW.out _⟩, by simp [intOf]; omega⟩
    · go_wp2_with fail
      obtain ⟨wo, rfl⟩ : ∃ wo, wo = wr := ⟨_, rfl⟩
      have HW1 := HW; clear HW
      go_loopw [9] (fun vi wr => ∃ i : Nat, vi = .int .i64 i ∧ i ≤ X.length ∧ Hid (Below w5.heap.size w5 wr)) (fun vi _ => X.length - (intOf vi).toNat)
      case atStart => exact ⟨0, rfl, by omega, HW1.out⟩
      case round =>
        obtain ⟨j, rfl, hj, HW⟩ := hrel
        by_cases hlt : j < X.length
        · obtain ⟨g, rfl, x0⟩ := hFc.out j hlt _ HW.out
          obtain ⟨g', rfl, y0⟩ := hFd.out j hlt _ HW.out
          go_wp2_with fail
          go_quiet (fail)
          go_wp2_with fail
          exact ⟨⟨j + 1, by go_num, by omega, below_drawn HW.out _⟩, by simp [intOf]; omega⟩
        · go_wp2_with fail
          go_ret
          exact ⟨rfl, HB5.out.trans (HW.out.mono (by have := HB5.out.size; omega))⟩
end Go.Proofs.YtnachjhhbhhpoaaDoor
