/-
  The document's table: stithyref12.All hands back its rows, in its order.
-/
import Derived.Test.YtnachjhhbhhpoaaDoorOpG
namespace Go.Proofs.YtnachjhhbhhpoaaDoor
open Go.RowKit
theorem two_first (w : World) (C N : Array Value) (t t' : TypeId) : ((w.alloc (.cells C t)).alloc (.cells N t')).heap[w.heap.size]? = some (.cells C t (0, 0)) := by
  rw [alloc_block (by simp)]; exact (Go.MapKept.heap_alloc w _).1
theorem two_second (w : World) (C N : Array Value) (t t' : TypeId) : ((w.alloc (.cells C t)).alloc (.cells N t')).heap[w.heap.size + 1]? = some (.cells N t' (0, 0)) := by
  have h := (Go.MapKept.heap_alloc (w.alloc (.cells C t)) (.cells N t')).1
  rwa [World.size_alloc] at h
theorem ownsRow_two {w : World} {base e size n : Nat} {v : Value} {xs : List Value} (h : w.ownsRow base e size v n xs) (o o' : Obj) : ((w.alloc o).alloc o').ownsRow base e size v n xs := (h.alloc _).alloc _
theorem below_two {B : Nat} {w w1 w2 : World} {o o' : Obj} (h : Below B w w1) (hb : Below ((w1.alloc o).alloc o').heap.size ((w1.alloc o).alloc o') w2) (hB : B ≤ w1.heap.size) : Below B w w2 :=
  ((h.alloc hB _).alloc (by simp; omega) _).trans (hb.mono (by simp; omega))
theorem row_next {w : World} {base e size : Nat} {v : Value} {m n : Nat} {L : List (Nat × Opx.Inf)} (h : w.ownsRow base e size v (m + n) ((Opx.RT.take m).flatMap rcells ++ L.flatMap rcells)) (hL : Opx.RT.take m ++ L = Opx.RT.take (m + n)) :
    Hid (w.ownsRow base e size v (m + n) ((Opx.RT.take (m + n)).flatMap rcells)) := by
  rw [← hL, List.flatMap_append]; exact h
theorem one_int {x : Nat × Opx.Inf} {z : Int} (h : z = (x.1 : Int)) : (#[Value.int .i64 z] : Array Value).toList = [x].map fun x => .int .i64 (x.1 : Int) := by simp [h]
theorem one_str {x : Nat × Opx.Inf} {s : ByteArray} (h : s = ⟨x.2.name.toArray⟩) : (#[Value.string s] : Array Value).toList = [x].map fun x => .string ⟨x.2.name.toArray⟩ := by simp [h]
theorem one_row {x : Nat × Opx.Inf} {g i o : Int} (h : (x.2.gas : Int) = g ∧ (x.2.inn : Int) = i ∧ (x.2.out : Int) = o) : ∀ y ∈ [x], (y.2.gas : Int) = g ∧ (y.2.inn : Int) = i ∧ (y.2.out : Int) = o := by
  intro y hy; simp at hy; subst hy; exact h
theorem take_one {m : Nat} {x : Nat × Opx.Inf} (h : Opx.RT[m]? = some x) : Opx.RT.take m ++ [x] = Opx.RT.take (m + 1) := by
  obtain ⟨hlt, rfl⟩ := List.getElem?_eq_some_iff.1 h
  rw [List.take_succ_eq_append_getElem hlt]
/-- stithyref12.group, of slices that are known whole. -/
theorem group_at (L : List (Nat × Opx.Inf)) (bc bn n : Nat) (g i o : Int) (w : World) (C N : Array Value) (tc tn : TypeId) (hn : L.length = n) (hn100 : n < 100) (hC : w.heap[bc]? = some (.cells C tc (0, 0))) (hN : w.heap[bn]? = some (.cells N tn (0, 0)))
    (eC : C.toList = L.map fun x => .int .i64 (x.1 : Int)) (eN : N.toList = L.map fun x => .string ⟨x.2.name.toArray⟩) (hL : ∀ x ∈ L, (x.2.gas : Int) = g ∧ (x.2.inn : Int) = i ∧ (x.2.out : Int) = o) (h0 : 0 < n)
    (hbc : bc < w.heap.size) (hbn : bn < w.heap.size) :
    Calls Tryd.prog 30 #[.slice (some ⟨bc, 0, none⟩) n n, .slice (some ⟨bn, 0, none⟩) n n, .int .u64 g, .int .i64 i, .int .i64 o] w fun e w' =>
      ∃ gg cap, e = .returned (.slice (some ⟨gg, 0, none⟩) n cap) ∧ (∀ j u, (L.flatMap rcells)[j]? = some u → w'.cell? ((⟨gg, 0, none⟩ : Addr).add j) = some u) ∧ Below w.heap.size w w' := by
  obtain ⟨y, hy⟩ : ∃ y, y ∈ L := by
    cases L with
    | nil => simp at hn; omega
    | cons y l => exact ⟨y, by simp⟩
  obtain ⟨rfl, rfl, rfl⟩ := hL y hy
  refine (group_any L bc bn n y.2.gas y.2.inn y.2.out w hn hn100 ?_ hbc hbn).mono ?_
  · intro j x hx
    have hxm := List.mem_of_getElem? hx
    obtain ⟨h1, h2, h3⟩ := hL x hxm
    refine ⟨?_, ?_, by omega, by omega, by omega⟩
    · rw [cell_of hC, ← Array.getElem?_toList, eC, List.getElem?_map, hx]; rfl
    · rw [cell_of hN, ← Array.getElem?_toList, eN, List.getElem?_map, hx]; rfl
  · rintro e w' ⟨v, rfl, ho, hb⟩
    rcases ho.2 with ⟨_, hz⟩ | ⟨gg, cap, cur, rfl, h1, h2, h3, h4, h5, h6⟩
    · omega
    · refine ⟨gg, cap, rfl, ?_, hb⟩
      intro j u hu
      refine World.news_of_block h2 j u ?_
      rw [← h6] at hu
      rw [List.getElem?_take] at hu
      split at hu
      · exact hu
      · cases hu

set_option maxHeartbeats 32000000 in
set_option maxRecDepth 1000000 in
theorem refAll_any (w : World) :
    Calls Tryd.prog 20 #[] w fun e w' => ∃ gg cap, e = .returned (.slice (some ⟨gg, 0, none⟩) 144 cap) ∧ w.heap.size ≤ gg ∧ (∀ j u, (Opx.RT.flatMap rcells)[j]? = some u → w'.cell? ⟨gg, j, none⟩ = some u) ∧ Below w.heap.size w w' := by
  obtain ⟨i0, hi, hz0, hz1, hz2⟩ := info_parts row_info
  have HO : Hid (w.ownsRow w.heap.size 53 5 (.slice none 0 0) 0 ((Opx.RT.take 0).flatMap rcells)) := ⟨by simp, .inl ⟨rfl, rfl⟩⟩
  have HB : Hid (Below w.heap.size w w) := Below.refl _ _
  go_enter Tryd.func20, Tryd.ntmps20
  go_wp2_with fail
  refine (group_at ((Opx.RT.drop 0).take 2) _ _ 2 _ _ _ _ _ _ _ _ (by kernel_rfl) (by decide) (by exact two_first _ _ _ _ _) (by exact two_second _ _ _ _ _) (by kernel_rfl) (by kernel_rfl) (by decide) (by decide) (by simp; omega) (by simp)).mono ?_
  rintro e w1 ⟨gg, cap, rfl, hcs, hb⟩
  have ho := ownsRow_below (ownsRow_two HO.out _ _) hb (Nat.le_refl _)
  have hbb := below_two HB.out hb HB.out.size
  have hsz := hbb.size
  clear hb HO HB
  go_wp2_with (at_builtin; refine wpList_append_own _ rfl _ _ 50 rfl w.heap.size 53 i0 _ 5 48 Tryd.underlying50 hi hz0 hz1 hz2 rfl (by decide) _ _ _ rfl ho ⟨gg, 0, none⟩ 2 cap _ rfl (by rw [rcells_length]; rfl) hcs (rcells_one _) (by decide) (by decide) hsz ?_; intro v2 x2 ho1 hg1 _; have HO := row_next (m := 0) ho1 (by kernel_rfl); have HB := Lib.hid (below_grown_own hbb ho hg1 hsz); clear ho1 hg1 ho hbb hsz hcs)
  go_wp2_with fail
  refine (group_at ((Opx.RT.drop 2).take 2) _ _ 2 _ _ _ _ _ _ _ _ (by kernel_rfl) (by decide) (by exact two_first _ _ _ _ _) (by exact two_second _ _ _ _ _) (by kernel_rfl) (by kernel_rfl) (by decide) (by decide) (by simp; omega) (by simp)).mono ?_
  rintro e w3 ⟨gg, cap, rfl, hcs, hb⟩
  have ho := ownsRow_below (ownsRow_two HO.out _ _) hb (Nat.le_refl _)
  have hbb := below_two HB.out hb HB.out.size
  have hsz := hbb.size
  clear hb HO HB
  go_wp2_with (at_builtin; refine wpList_append_own _ rfl _ _ 50 rfl w.heap.size 53 i0 _ 5 48 Tryd.underlying50 hi hz0 hz1 hz2 rfl (by decide) _ _ _ rfl ho ⟨gg, 0, none⟩ 2 cap _ rfl (by rw [rcells_length]; rfl) hcs (rcells_one _) (by decide) (by decide) hsz ?_; intro v4 x4 ho1 hg1 _; have HO := row_next (m := 2) ho1 (by kernel_rfl); have HB := Lib.hid (below_grown_own hbb ho hg1 hsz); clear ho1 hg1 ho hbb hsz hcs)
  go_wp2_with fail
  refine (group_at ((Opx.RT.drop 4).take 6) _ _ 6 _ _ _ _ _ _ _ _ (by kernel_rfl) (by decide) (by exact two_first _ _ _ _ _) (by exact two_second _ _ _ _ _) (by kernel_rfl) (by kernel_rfl) (by decide) (by decide) (by simp; omega) (by simp)).mono ?_
  rintro e w5 ⟨gg, cap, rfl, hcs, hb⟩
  have ho := ownsRow_below (ownsRow_two HO.out _ _) hb (Nat.le_refl _)
  have hbb := below_two HB.out hb HB.out.size
  have hsz := hbb.size
  clear hb HO HB
  go_wp2_with (at_builtin; refine wpList_append_own _ rfl _ _ 50 rfl w.heap.size 53 i0 _ 5 48 Tryd.underlying50 hi hz0 hz1 hz2 rfl (by decide) _ _ _ rfl ho ⟨gg, 0, none⟩ 6 cap _ rfl (by rw [rcells_length]; rfl) hcs (rcells_one _) (by decide) (by decide) hsz ?_; intro v10 x10 ho1 hg1 _; have HO := row_next (m := 4) ho1 (by kernel_rfl); have HB := Lib.hid (below_grown_own hbb ho hg1 hsz); clear ho1 hg1 ho hbb hsz hcs)
  go_wp2_with fail
  refine (group_at ((Opx.RT.drop 10).take 2) _ _ 2 _ _ _ _ _ _ _ _ (by kernel_rfl) (by decide) (by exact two_first _ _ _ _ _) (by exact two_second _ _ _ _ _) (by kernel_rfl) (by kernel_rfl) (by decide) (by decide) (by simp; omega) (by simp)).mono ?_
  rintro e w11 ⟨gg, cap, rfl, hcs, hb⟩
  have ho := ownsRow_below (ownsRow_two HO.out _ _) hb (Nat.le_refl _)
  have hbb := below_two HB.out hb HB.out.size
  have hsz := hbb.size
  clear hb HO HB
  go_wp2_with (at_builtin; refine wpList_append_own _ rfl _ _ 50 rfl w.heap.size 53 i0 _ 5 48 Tryd.underlying50 hi hz0 hz1 hz2 rfl (by decide) _ _ _ rfl ho ⟨gg, 0, none⟩ 2 cap _ rfl (by rw [rcells_length]; rfl) hcs (rcells_one _) (by decide) (by decide) hsz ?_; intro v12 x12 ho1 hg1 _; have HO := row_next (m := 10) ho1 (by kernel_rfl); have HB := Lib.hid (below_grown_own hbb ho hg1 hsz); clear ho1 hg1 ho hbb hsz hcs)
  go_wp2_with fail
  refine (group_at ((Opx.RT.drop 12).take 1) _ _ 1 _ _ _ _ _ _ _ _ (by kernel_rfl) (by decide) (by exact two_first _ _ _ _ _) (by exact two_second _ _ _ _ _) (by kernel_rfl) (by kernel_rfl) (by decide) (by decide) (by simp; omega) (by simp)).mono ?_
  rintro e w13 ⟨gg, cap, rfl, hcs, hb⟩
  have ho := ownsRow_below (ownsRow_two HO.out _ _) hb (Nat.le_refl _)
  have hbb := below_two HB.out hb HB.out.size
  have hsz := hbb.size
  clear hb HO HB
  go_wp2_with (at_builtin; refine wpList_append_own _ rfl _ _ 50 rfl w.heap.size 53 i0 _ 5 48 Tryd.underlying50 hi hz0 hz1 hz2 rfl (by decide) _ _ _ rfl ho ⟨gg, 0, none⟩ 1 cap _ rfl (by rw [rcells_length]; rfl) hcs (rcells_one _) (by decide) (by decide) hsz ?_; intro v13 x13 ho1 hg1 _; have HO := row_next (m := 12) ho1 (by kernel_rfl); have HB := Lib.hid (below_grown_own hbb ho hg1 hsz); clear ho1 hg1 ho hbb hsz hcs)
  go_wp2_with fail
  refine (group_at ((Opx.RT.drop 13).take 12) _ _ 12 _ _ _ _ _ _ _ _ (by kernel_rfl) (by decide) (by exact two_first _ _ _ _ _) (by exact two_second _ _ _ _ _) (by kernel_rfl) (by kernel_rfl) (by decide) (by decide) (by simp; omega) (by simp)).mono ?_
  rintro e w14 ⟨gg, cap, rfl, hcs, hb⟩
  have ho := ownsRow_below (ownsRow_two HO.out _ _) hb (Nat.le_refl _)
  have hbb := below_two HB.out hb HB.out.size
  have hsz := hbb.size
  clear hb HO HB
  go_wp2_with (at_builtin; refine wpList_append_own _ rfl _ _ 50 rfl w.heap.size 53 i0 _ 5 48 Tryd.underlying50 hi hz0 hz1 hz2 rfl (by decide) _ _ _ rfl ho ⟨gg, 0, none⟩ 12 cap _ rfl (by rw [rcells_length]; rfl) hcs (rcells_one _) (by decide) (by decide) hsz ?_; intro v25 x25 ho1 hg1 _; have HO := row_next (m := 13) ho1 (by kernel_rfl); have HB := Lib.hid (below_grown_own hbb ho hg1 hsz); clear ho1 hg1 ho hbb hsz hcs)
  go_wp2_with fail
  refine (group_at ((Opx.RT.drop 25).take 4) _ _ 4 _ _ _ _ _ _ _ _ (by kernel_rfl) (by decide) (by exact two_first _ _ _ _ _) (by exact two_second _ _ _ _ _) (by kernel_rfl) (by kernel_rfl) (by decide) (by decide) (by simp; omega) (by simp)).mono ?_
  rintro e w26 ⟨gg, cap, rfl, hcs, hb⟩
  have ho := ownsRow_below (ownsRow_two HO.out _ _) hb (Nat.le_refl _)
  have hbb := below_two HB.out hb HB.out.size
  have hsz := hbb.size
  clear hb HO HB
  go_wp2_with (at_builtin; refine wpList_append_own _ rfl _ _ 50 rfl w.heap.size 53 i0 _ 5 48 Tryd.underlying50 hi hz0 hz1 hz2 rfl (by decide) _ _ _ rfl ho ⟨gg, 0, none⟩ 4 cap _ rfl (by rw [rcells_length]; rfl) hcs (rcells_one _) (by decide) (by decide) hsz ?_; intro v29 x29 ho1 hg1 _; have HO := row_next (m := 25) ho1 (by kernel_rfl); have HB := Lib.hid (below_grown_own hbb ho hg1 hsz); clear ho1 hg1 ho hbb hsz hcs)
  go_wp2_with fail
  refine (group_at ((Opx.RT.drop 29).take 1) _ _ 1 _ _ _ _ _ _ _ _ (by kernel_rfl) (by decide) (by exact two_first _ _ _ _ _) (by exact two_second _ _ _ _ _) (by kernel_rfl) (by kernel_rfl) (by decide) (by decide) (by simp; omega) (by simp)).mono ?_
  rintro e w30 ⟨gg, cap, rfl, hcs, hb⟩
  have ho := ownsRow_below (ownsRow_two HO.out _ _) hb (Nat.le_refl _)
  have hbb := below_two HB.out hb HB.out.size
  have hsz := hbb.size
  clear hb HO HB
  go_wp2_with (at_builtin; refine wpList_append_own _ rfl _ _ 50 rfl w.heap.size 53 i0 _ 5 48 Tryd.underlying50 hi hz0 hz1 hz2 rfl (by decide) _ _ _ rfl ho ⟨gg, 0, none⟩ 1 cap _ rfl (by rw [rcells_length]; rfl) hcs (rcells_one _) (by decide) (by decide) hsz ?_; intro v30 x30 ho1 hg1 _; have HO := row_next (m := 29) ho1 (by kernel_rfl); have HB := Lib.hid (below_grown_own hbb ho hg1 hsz); clear ho1 hg1 ho hbb hsz hcs)
  go_wp2_with fail
  refine (group_at ((Opx.RT.drop 30).take 8) _ _ 8 _ _ _ _ _ _ _ _ (by kernel_rfl) (by decide) (by exact two_first _ _ _ _ _) (by exact two_second _ _ _ _ _) (by kernel_rfl) (by kernel_rfl) (by decide) (by decide) (by simp; omega) (by simp)).mono ?_
  rintro e w31 ⟨gg, cap, rfl, hcs, hb⟩
  have ho := ownsRow_below (ownsRow_two HO.out _ _) hb (Nat.le_refl _)
  have hbb := below_two HB.out hb HB.out.size
  have hsz := hbb.size
  clear hb HO HB
  go_wp2_with (at_builtin; refine wpList_append_own _ rfl _ _ 50 rfl w.heap.size 53 i0 _ 5 48 Tryd.underlying50 hi hz0 hz1 hz2 rfl (by decide) _ _ _ rfl ho ⟨gg, 0, none⟩ 8 cap _ rfl (by rw [rcells_length]; rfl) hcs (rcells_one _) (by decide) (by decide) hsz ?_; intro v38 x38 ho1 hg1 _; have HO := row_next (m := 30) ho1 (by kernel_rfl); have HB := Lib.hid (below_grown_own hbb ho hg1 hsz); clear ho1 hg1 ho hbb hsz hcs)
  go_wp2_with fail
  refine (group_at ((Opx.RT.drop 38).take 4) _ _ 4 _ _ _ _ _ _ _ _ (by kernel_rfl) (by decide) (by exact two_first _ _ _ _ _) (by exact two_second _ _ _ _ _) (by kernel_rfl) (by kernel_rfl) (by decide) (by decide) (by simp; omega) (by simp)).mono ?_
  rintro e w39 ⟨gg, cap, rfl, hcs, hb⟩
  have ho := ownsRow_below (ownsRow_two HO.out _ _) hb (Nat.le_refl _)
  have hbb := below_two HB.out hb HB.out.size
  have hsz := hbb.size
  clear hb HO HB
  go_wp2_with (at_builtin; refine wpList_append_own _ rfl _ _ 50 rfl w.heap.size 53 i0 _ 5 48 Tryd.underlying50 hi hz0 hz1 hz2 rfl (by decide) _ _ _ rfl ho ⟨gg, 0, none⟩ 4 cap _ rfl (by rw [rcells_length]; rfl) hcs (rcells_one _) (by decide) (by decide) hsz ?_; intro v42 x42 ho1 hg1 _; have HO := row_next (m := 38) ho1 (by kernel_rfl); have HB := Lib.hid (below_grown_own hbb ho hg1 hsz); clear ho1 hg1 ho hbb hsz hcs)
  go_wp2_with fail
  refine (group_at ((Opx.RT.drop 42).take 3) _ _ 3 _ _ _ _ _ _ _ _ (by kernel_rfl) (by decide) (by exact two_first _ _ _ _ _) (by exact two_second _ _ _ _ _) (by kernel_rfl) (by kernel_rfl) (by decide) (by decide) (by simp; omega) (by simp)).mono ?_
  rintro e w43 ⟨gg, cap, rfl, hcs, hb⟩
  have ho := ownsRow_below (ownsRow_two HO.out _ _) hb (Nat.le_refl _)
  have hbb := below_two HB.out hb HB.out.size
  have hsz := hbb.size
  clear hb HO HB
  go_wp2_with (at_builtin; refine wpList_append_own _ rfl _ _ 50 rfl w.heap.size 53 i0 _ 5 48 Tryd.underlying50 hi hz0 hz1 hz2 rfl (by decide) _ _ _ rfl ho ⟨gg, 0, none⟩ 3 cap _ rfl (by rw [rcells_length]; rfl) hcs (rcells_one _) (by decide) (by decide) hsz ?_; intro v45 x45 ho1 hg1 _; have HO := row_next (m := 42) ho1 (by kernel_rfl); have HB := Lib.hid (below_grown_own hbb ho hg1 hsz); clear ho1 hg1 ho hbb hsz hcs)
  go_wp2_with fail
  refine (group_at ((Opx.RT.drop 45).take 1) _ _ 1 _ _ _ _ _ _ _ _ (by kernel_rfl) (by decide) (by exact two_first _ _ _ _ _) (by exact two_second _ _ _ _ _) (by kernel_rfl) (by kernel_rfl) (by decide) (by decide) (by simp; omega) (by simp)).mono ?_
  rintro e w46 ⟨gg, cap, rfl, hcs, hb⟩
  have ho := ownsRow_below (ownsRow_two HO.out _ _) hb (Nat.le_refl _)
  have hbb := below_two HB.out hb HB.out.size
  have hsz := hbb.size
  clear hb HO HB
  go_wp2_with (at_builtin; refine wpList_append_own _ rfl _ _ 50 rfl w.heap.size 53 i0 _ 5 48 Tryd.underlying50 hi hz0 hz1 hz2 rfl (by decide) _ _ _ rfl ho ⟨gg, 0, none⟩ 1 cap _ rfl (by rw [rcells_length]; rfl) hcs (rcells_one _) (by decide) (by decide) hsz ?_; intro v46 x46 ho1 hg1 _; have HO := row_next (m := 45) ho1 (by kernel_rfl); have HB := Lib.hid (below_grown_own hbb ho hg1 hsz); clear ho1 hg1 ho hbb hsz hcs)
  go_wp2_with fail
  refine (group_at ((Opx.RT.drop 46).take 1) _ _ 1 _ _ _ _ _ _ _ _ (by kernel_rfl) (by decide) (by exact two_first _ _ _ _ _) (by exact two_second _ _ _ _ _) (by kernel_rfl) (by kernel_rfl) (by decide) (by decide) (by simp; omega) (by simp)).mono ?_
  rintro e w47 ⟨gg, cap, rfl, hcs, hb⟩
  have ho := ownsRow_below (ownsRow_two HO.out _ _) hb (Nat.le_refl _)
  have hbb := below_two HB.out hb HB.out.size
  have hsz := hbb.size
  clear hb HO HB
  go_wp2_with (at_builtin; refine wpList_append_own _ rfl _ _ 50 rfl w.heap.size 53 i0 _ 5 48 Tryd.underlying50 hi hz0 hz1 hz2 rfl (by decide) _ _ _ rfl ho ⟨gg, 0, none⟩ 1 cap _ rfl (by rw [rcells_length]; rfl) hcs (rcells_one _) (by decide) (by decide) hsz ?_; intro v47 x47 ho1 hg1 _; have HO := row_next (m := 46) ho1 (by kernel_rfl); have HB := Lib.hid (below_grown_own hbb ho hg1 hsz); clear ho1 hg1 ho hbb hsz hcs)
  go_wp2_with fail
  refine (group_at ((Opx.RT.drop 47).take 11) _ _ 11 _ _ _ _ _ _ _ _ (by kernel_rfl) (by decide) (by exact two_first _ _ _ _ _) (by exact two_second _ _ _ _ _) (by kernel_rfl) (by kernel_rfl) (by decide) (by decide) (by simp; omega) (by simp)).mono ?_
  rintro e w48 ⟨gg, cap, rfl, hcs, hb⟩
  have ho := ownsRow_below (ownsRow_two HO.out _ _) hb (Nat.le_refl _)
  have hbb := below_two HB.out hb HB.out.size
  have hsz := hbb.size
  clear hb HO HB
  go_wp2_with (at_builtin; refine wpList_append_own _ rfl _ _ 50 rfl w.heap.size 53 i0 _ 5 48 Tryd.underlying50 hi hz0 hz1 hz2 rfl (by decide) _ _ _ rfl ho ⟨gg, 0, none⟩ 11 cap _ rfl (by rw [rcells_length]; rfl) hcs (rcells_one _) (by decide) (by decide) hsz ?_; intro v58 x58 ho1 hg1 _; have HO := row_next (m := 47) ho1 (by kernel_rfl); have HB := Lib.hid (below_grown_own hbb ho hg1 hsz); clear ho1 hg1 ho hbb hsz hcs)
  go_wp2_with fail
  refine (group_at ((Opx.RT.drop 58).take 1) _ _ 1 _ _ _ _ _ _ _ _ (by kernel_rfl) (by decide) (by exact two_first _ _ _ _ _) (by exact two_second _ _ _ _ _) (by kernel_rfl) (by kernel_rfl) (by decide) (by decide) (by simp; omega) (by simp)).mono ?_
  rintro e w59 ⟨gg, cap, rfl, hcs, hb⟩
  have ho := ownsRow_below (ownsRow_two HO.out _ _) hb (Nat.le_refl _)
  have hbb := below_two HB.out hb HB.out.size
  have hsz := hbb.size
  clear hb HO HB
  go_wp2_with (at_builtin; refine wpList_append_own _ rfl _ _ 50 rfl w.heap.size 53 i0 _ 5 48 Tryd.underlying50 hi hz0 hz1 hz2 rfl (by decide) _ _ _ rfl ho ⟨gg, 0, none⟩ 1 cap _ rfl (by rw [rcells_length]; rfl) hcs (rcells_one _) (by decide) (by decide) hsz ?_; intro v59 x59 ho1 hg1 _; have HO := row_next (m := 58) ho1 (by kernel_rfl); have HB := Lib.hid (below_grown_own hbb ho hg1 hsz); clear ho1 hg1 ho hbb hsz hcs)
  go_wp2_with fail
  refine (group_at ((Opx.RT.drop 59).take 1) _ _ 1 _ _ _ _ _ _ _ _ (by kernel_rfl) (by decide) (by exact two_first _ _ _ _ _) (by exact two_second _ _ _ _ _) (by kernel_rfl) (by kernel_rfl) (by decide) (by decide) (by simp; omega) (by simp)).mono ?_
  rintro e w60 ⟨gg, cap, rfl, hcs, hb⟩
  have ho := ownsRow_below (ownsRow_two HO.out _ _) hb (Nat.le_refl _)
  have hbb := below_two HB.out hb HB.out.size
  have hsz := hbb.size
  clear hb HO HB
  go_wp2_with (at_builtin; refine wpList_append_own _ rfl _ _ 50 rfl w.heap.size 53 i0 _ 5 48 Tryd.underlying50 hi hz0 hz1 hz2 rfl (by decide) _ _ _ rfl ho ⟨gg, 0, none⟩ 1 cap _ rfl (by rw [rcells_length]; rfl) hcs (rcells_one _) (by decide) (by decide) hsz ?_; intro v60 x60 ho1 hg1 _; have HO := row_next (m := 59) ho1 (by kernel_rfl); have HB := Lib.hid (below_grown_own hbb ho hg1 hsz); clear ho1 hg1 ho hbb hsz hcs)
  go_wp2_with fail
  refine (group_at ((Opx.RT.drop 60).take 2) _ _ 2 _ _ _ _ _ _ _ _ (by kernel_rfl) (by decide) (by exact two_first _ _ _ _ _) (by exact two_second _ _ _ _ _) (by kernel_rfl) (by kernel_rfl) (by decide) (by decide) (by simp; omega) (by simp)).mono ?_
  rintro e w61 ⟨gg, cap, rfl, hcs, hb⟩
  have ho := ownsRow_below (ownsRow_two HO.out _ _) hb (Nat.le_refl _)
  have hbb := below_two HB.out hb HB.out.size
  have hsz := hbb.size
  clear hb HO HB
  go_wp2_with (at_builtin; refine wpList_append_own _ rfl _ _ 50 rfl w.heap.size 53 i0 _ 5 48 Tryd.underlying50 hi hz0 hz1 hz2 rfl (by decide) _ _ _ rfl ho ⟨gg, 0, none⟩ 2 cap _ rfl (by rw [rcells_length]; rfl) hcs (rcells_one _) (by decide) (by decide) hsz ?_; intro v62 x62 ho1 hg1 _; have HO := row_next (m := 60) ho1 (by kernel_rfl); have HB := Lib.hid (below_grown_own hbb ho hg1 hsz); clear ho1 hg1 ho hbb hsz hcs)
  go_wp2_with fail
  refine (group_at ((Opx.RT.drop 62).take 3) _ _ 3 _ _ _ _ _ _ _ _ (by kernel_rfl) (by decide) (by exact two_first _ _ _ _ _) (by exact two_second _ _ _ _ _) (by kernel_rfl) (by kernel_rfl) (by decide) (by decide) (by simp; omega) (by simp)).mono ?_
  rintro e w63 ⟨gg, cap, rfl, hcs, hb⟩
  have ho := ownsRow_below (ownsRow_two HO.out _ _) hb (Nat.le_refl _)
  have hbb := below_two HB.out hb HB.out.size
  have hsz := hbb.size
  clear hb HO HB
  go_wp2_with (at_builtin; refine wpList_append_own _ rfl _ _ 50 rfl w.heap.size 53 i0 _ 5 48 Tryd.underlying50 hi hz0 hz1 hz2 rfl (by decide) _ _ _ rfl ho ⟨gg, 0, none⟩ 3 cap _ rfl (by rw [rcells_length]; rfl) hcs (rcells_one _) (by decide) (by decide) hsz ?_; intro v65 x65 ho1 hg1 _; have HO := row_next (m := 62) ho1 (by kernel_rfl); have HB := Lib.hid (below_grown_own hbb ho hg1 hsz); clear ho1 hg1 ho hbb hsz hcs)
  go_wp2_with fail
  refine (group_at ((Opx.RT.drop 65).take 1) _ _ 1 _ _ _ _ _ _ _ _ (by kernel_rfl) (by decide) (by exact two_first _ _ _ _ _) (by exact two_second _ _ _ _ _) (by kernel_rfl) (by kernel_rfl) (by decide) (by decide) (by simp; omega) (by simp)).mono ?_
  rintro e w66 ⟨gg, cap, rfl, hcs, hb⟩
  have ho := ownsRow_below (ownsRow_two HO.out _ _) hb (Nat.le_refl _)
  have hbb := below_two HB.out hb HB.out.size
  have hsz := hbb.size
  clear hb HO HB
  go_wp2_with (at_builtin; refine wpList_append_own _ rfl _ _ 50 rfl w.heap.size 53 i0 _ 5 48 Tryd.underlying50 hi hz0 hz1 hz2 rfl (by decide) _ _ _ rfl ho ⟨gg, 0, none⟩ 1 cap _ rfl (by rw [rcells_length]; rfl) hcs (rcells_one _) (by decide) (by decide) hsz ?_; intro v66 x66 ho1 hg1 _; have HO := row_next (m := 65) ho1 (by kernel_rfl); have HB := Lib.hid (below_grown_own hbb ho hg1 hsz); clear ho1 hg1 ho hbb hsz hcs)
  go_wp2_with fail
  refine (group_at ((Opx.RT.drop 66).take 1) _ _ 1 _ _ _ _ _ _ _ _ (by kernel_rfl) (by decide) (by exact two_first _ _ _ _ _) (by exact two_second _ _ _ _ _) (by kernel_rfl) (by kernel_rfl) (by decide) (by decide) (by simp; omega) (by simp)).mono ?_
  rintro e w67 ⟨gg, cap, rfl, hcs, hb⟩
  have ho := ownsRow_below (ownsRow_two HO.out _ _) hb (Nat.le_refl _)
  have hbb := below_two HB.out hb HB.out.size
  have hsz := hbb.size
  clear hb HO HB
  go_wp2_with (at_builtin; refine wpList_append_own _ rfl _ _ 50 rfl w.heap.size 53 i0 _ 5 48 Tryd.underlying50 hi hz0 hz1 hz2 rfl (by decide) _ _ _ rfl ho ⟨gg, 0, none⟩ 1 cap _ rfl (by rw [rcells_length]; rfl) hcs (rcells_one _) (by decide) (by decide) hsz ?_; intro v67 x67 ho1 hg1 _; have HO := row_next (m := 66) ho1 (by kernel_rfl); have HB := Lib.hid (below_grown_own hbb ho hg1 hsz); clear ho1 hg1 ho hbb hsz hcs)
  go_wp2_with fail
  refine (group_at ((Opx.RT.drop 67).take 1) _ _ 1 _ _ _ _ _ _ _ _ (by kernel_rfl) (by decide) (by exact two_first _ _ _ _ _) (by exact two_second _ _ _ _ _) (by kernel_rfl) (by kernel_rfl) (by decide) (by decide) (by simp; omega) (by simp)).mono ?_
  rintro e w68 ⟨gg, cap, rfl, hcs, hb⟩
  have ho := ownsRow_below (ownsRow_two HO.out _ _) hb (Nat.le_refl _)
  have hbb := below_two HB.out hb HB.out.size
  have hsz := hbb.size
  clear hb HO HB
  go_wp2_with (at_builtin; refine wpList_append_own _ rfl _ _ 50 rfl w.heap.size 53 i0 _ 5 48 Tryd.underlying50 hi hz0 hz1 hz2 rfl (by decide) _ _ _ rfl ho ⟨gg, 0, none⟩ 1 cap _ rfl (by rw [rcells_length]; rfl) hcs (rcells_one _) (by decide) (by decide) hsz ?_; intro v68 x68 ho1 hg1 _; have HO := row_next (m := 67) ho1 (by kernel_rfl); have HB := Lib.hid (below_grown_own hbb ho hg1 hsz); clear ho1 hg1 ho hbb hsz hcs)
  go_wp2_with fail
  go_loopw [1, 2] (fun vl vi wr => ∃ p m : Nat, vi = .int .i64 p ∧ 1 ≤ p ∧ p ≤ 33 ∧ Hid (m = 67 + p) ∧ Hid (wr.ownsRow w.heap.size 53 5 vl m ((Opx.RT.take m).flatMap rcells)) ∧ Hid (Below w.heap.size w wr))
    (fun _ vi _ => 33 - (intOf vi).toNat)
  case atStart => exact ⟨1, 68, rfl, by omega, by omega, rfl, HO, HB⟩
  case round =>
    clear HO HB
    obtain ⟨p, m, rfl, hp1, hp2, hm, HO, HB⟩ := hrel
    have hsw := HB.out.size
    by_cases hpn : p ≤ 32
    · have hd2 : (dig p).length ≤ 2 := by unfold dig; split <;> simp
      have hdg := fun W => Lib.hid (digits_any p W (by omega))
      obtain ⟨x, hx, hx1, hx2, hx3, hx4, hx5⟩ : ∃ x, Opx.RT[m]? = some x ∧ (95 + (p : Int)) = (x.1 : Int) ∧ ({ data := #[80, 85, 83, 72] } ++ { data := (dig p).toArray } : ByteArray) = ⟨x.2.name.toArray⟩ ∧ (x.2.gas : Int) = 3 ∧ (x.2.inn : Int) = 0 ∧ (x.2.out : Int) = 1 := by
        refine ⟨_, by rw [hm.out]; exact Opx.rrows_push p (by omega) hp1, by simp, str_app [80, 85, 83, 72] (dig p), rfl, rfl, rfl⟩
      have HX := Lib.hid (And.intro hx (And.intro hx1 (And.intro hx2 (And.intro hx3 (And.intro hx4 hx5)))))
      clear hx hx1 hx2 hx3 hx4 hx5
      generalize dig p = d at hd2 hdg HX
      go_wp2_with fail
      refine (hdg _).out.mono ?_
      rintro e w2 ⟨rfl, hb2⟩
      have hc2 := still_there (w := wr) (C := #[.int .i64 (95 + (p : Int))]) (t := 3) (w1 := w2) (by simpa using hb2)
      have HC2 := Lib.hid hc2; have hzz := hc2.2.1; clear hc2 hb2 hdg
      go_wp2_with fail
      refine (group_at [x] _ _ 1 _ _ _ _ _ _ _ _ rfl (by decide) (by exact (alloc_block hzz _).trans HC2.out.1) (by exact (Go.MapKept.heap_alloc _ _).1) (by exact one_int HX.out.2.1) (by exact one_str HX.out.2.2.1) (by exact one_row HX.out.2.2.2) (by decide) (by simp; omega) (by simp)).mono ?_
      rintro e w3 ⟨gg, cap, rfl, hcs, hb3⟩
      have hbb : Below w.heap.size w w3 := ((HB.out.trans (HC2.out.2.2.mono hsw)).alloc (by omega) _).trans (hb3.mono (by simp; omega))
      have ho := ownsRow_below ((ownsRow_below HO.out HC2.out.2.2 (Nat.le_refl _)).alloc _) hb3 (Nat.le_refl _)
      have hsz := hbb.size
      have hm100 : m < 101 := by have := hm.out; omega
      clear hb3 HO HB
      go_wp2_with (at_builtin; refine wpList_append_own _ rfl _ _ 50 rfl w.heap.size 53 i0 _ 5 48 Tryd.underlying50 hi hz0 hz1 hz2 rfl (by decide) _ _ _ rfl ho ⟨gg, 0, none⟩ 1 cap _ rfl (by rw [rcells_length]; rfl) hcs (rcells_one _) (by unfold maxLen; omega) (by omega) hsz ?_; intro vx xx ho1 hg1 _; have HO := row_next (m := m) ho1 (take_one HX.out.1); have HB := Lib.hid (below_grown_own hbb ho hg1 hsz); clear ho1 hg1 ho hbb hsz hcs)
      exact ⟨⟨p + 1, m + 1, by go_num, by omega, by omega, by have := hm.out; exact (by omega : m + 1 = 67 + (p + 1)), HO, HB⟩, by simp [intOf]; omega⟩
    · go_wp2_with fail
      have hp33 : p = 33 := by omega
      have hm' := hm.out
      rw [hp33] at hm'
      rw [hm'] at HO
      clear hpn hp1 hp2 hm' hp33 hm
      go_loopw [1, 3] (fun vl vi wr => ∃ p m : Nat, vi = .int .i64 p ∧ 1 ≤ p ∧ p ≤ 17 ∧ Hid (m = 98 + 2 * p) ∧ Hid (wr.ownsRow w.heap.size 53 5 vl m ((Opx.RT.take m).flatMap rcells)) ∧ Hid (Below w.heap.size w wr))
        (fun _ vi _ => 17 - (intOf vi).toNat)
      case atStart => exact ⟨1, 100, rfl, by omega, by omega, rfl, HO, HB⟩
      case round =>
        clear HO HB hsw
        obtain ⟨p, m, rfl, hp1, hp2, hm, HO, HB⟩ := hrel
        have hsw := HB.out.size
        by_cases hpn : p ≤ 16
        · have hd2 : (dig p).length ≤ 2 := by unfold dig; split <;> simp
          have hdg := fun W => Lib.hid (digits_any p W (by omega))
          obtain ⟨xa, hx, hx1, hx2, hx3, hx4, hx5⟩ : ∃ x, Opx.RT[m]? = some x ∧ (127 + (p : Int)) = (x.1 : Int) ∧ ({ data := #[68, 85, 80] } ++ { data := (dig p).toArray } : ByteArray) = ⟨x.2.name.toArray⟩ ∧ (x.2.gas : Int) = 3 ∧ (x.2.inn : Int) = (p : Int) ∧ (x.2.out : Int) = (p : Int) + 1 := by
            refine ⟨_, by rw [hm.out]; exact Opx.rrows_dup p (by omega) hp1, by simp, str_app [68, 85, 80] (dig p), rfl, by simp, by simp⟩
          have HXa := Lib.hid (And.intro hx (And.intro hx1 (And.intro hx2 (And.intro hx3 (And.intro hx4 hx5)))))
          clear hx hx1 hx2 hx3 hx4 hx5
          obtain ⟨xb, hx, hx1, hx2, hx3, hx4, hx5⟩ : ∃ x, Opx.RT[m + 1]? = some x ∧ (143 + (p : Int)) = (x.1 : Int) ∧ ({ data := #[83, 87, 65, 80] } ++ { data := (dig p).toArray } : ByteArray) = ⟨x.2.name.toArray⟩ ∧ (x.2.gas : Int) = 3 ∧ (x.2.inn : Int) = (p : Int) + 1 ∧ (x.2.out : Int) = (p : Int) + 1 := by
            refine ⟨_, by rw [hm.out]; exact Opx.rrows_swap p (by omega) hp1, by simp, str_app [83, 87, 65, 80] (dig p), rfl, by simp, by simp⟩
          have HXb := Lib.hid (And.intro hx (And.intro hx1 (And.intro hx2 (And.intro hx3 (And.intro hx4 hx5)))))
          clear hx hx1 hx2 hx3 hx4 hx5
          generalize dig p = d at hd2 hdg HXa HXb
          go_wp2_with fail
          refine (hdg _).out.mono ?_
          rintro e w2a ⟨rfl, hb2⟩
          have hc2 := still_there (w := wr) (C := #[.int .i64 (127 + (p : Int))]) (t := 3) (w1 := w2a) (by simpa using hb2)
          have HCa := Lib.hid hc2; have hzza := hc2.2.1; clear hc2 hb2
          go_wp2_with fail
          refine (group_at [xa] _ _ 1 _ _ _ _ _ _ _ _ rfl (by decide) (by exact (alloc_block hzza _).trans HCa.out.1) (by exact (Go.MapKept.heap_alloc _ _).1) (by exact one_int HXa.out.2.1) (by exact one_str HXa.out.2.2.1) (by exact one_row HXa.out.2.2.2) (by decide) (by simp; omega) (by simp)).mono ?_
          rintro e w3a ⟨gga, capa, rfl, hcs, hb3⟩
          have hbb : Below w.heap.size w w3a := ((HB.out.trans (HCa.out.2.2.mono hsw)).alloc (by omega) _).trans (hb3.mono (by simp; omega))
          have ho := ownsRow_below ((ownsRow_below HO.out HCa.out.2.2 (Nat.le_refl _)).alloc _) hb3 (Nat.le_refl _)
          have hsz := hbb.size
          have hm100 : m < 144 := by have := hm.out; omega
          clear hb3 HO HB
          go_wp2_with (at_builtin; refine wpList_append_own _ rfl _ _ 50 rfl w.heap.size 53 i0 _ 5 48 Tryd.underlying50 hi hz0 hz1 hz2 rfl (by decide) _ _ _ rfl ho ⟨gga, 0, none⟩ 1 capa _ rfl (by rw [rcells_length]; rfl) hcs (rcells_one _) (by unfold maxLen; omega) (by omega) hsz ?_; intro v1 wx ho1 hg1 _; have HO1 := row_next (m := m) ho1 (take_one HXa.out.1); have HB1 := Lib.hid (below_grown_own hbb ho hg1 hsz); clear ho1 hg1 ho hbb hsz hcs hm100 hzza)
          have hsw1 := HB1.out.size
          go_wp2_with fail
          refine (hdg _).out.mono ?_
          rintro e w2b ⟨rfl, hb2⟩
          have hc2 := still_there (w := wx) (C := #[.int .i64 (143 + (p : Int))]) (t := 3) (w1 := w2b) (by simpa using hb2)
          have HCb := Lib.hid hc2; have hzzb := hc2.2.1; clear hc2 hb2
          go_wp2_with fail
          refine (group_at [xb] _ _ 1 _ _ _ _ _ _ _ _ rfl (by decide) (by exact (alloc_block hzzb _).trans HCb.out.1) (by exact (Go.MapKept.heap_alloc _ _).1) (by exact one_int HXb.out.2.1) (by exact one_str HXb.out.2.2.1) (by exact one_row HXb.out.2.2.2) (by decide) (by simp; omega) (by simp)).mono ?_
          rintro e w3b ⟨ggb, capb, rfl, hcs, hb3⟩
          have hbb : Below w.heap.size w w3b := ((HB1.out.trans (HCb.out.2.2.mono hsw1)).alloc (by omega) _).trans (hb3.mono (by simp; omega))
          have ho := ownsRow_below ((ownsRow_below HO1.out HCb.out.2.2 (Nat.le_refl _)).alloc _) hb3 (Nat.le_refl _)
          have hsz := hbb.size
          have hm100 : (m + 1) < 144 := by have := hm.out; omega
          clear hb3 HO1 HB1
          go_wp2_with (at_builtin; refine wpList_append_own _ rfl _ _ 50 rfl w.heap.size 53 i0 _ 5 48 Tryd.underlying50 hi hz0 hz1 hz2 rfl (by decide) _ _ _ rfl ho ⟨ggb, 0, none⟩ 1 capb _ rfl (by rw [rcells_length]; rfl) hcs (rcells_one _) (by unfold maxLen; omega) (by omega) hsz ?_; intro v2 wy ho1 hg1 _; have HO2 := row_next (m := (m + 1)) ho1 (take_one HXb.out.1); have HB2 := Lib.hid (below_grown_own hbb ho hg1 hsz); clear ho1 hg1 ho hbb hsz hcs hm100 hzzb)
          exact ⟨⟨p + 1, m + 1 + 1, by go_num, by omega, by omega, by have := hm.out; exact (by omega : m + 1 + 1 = 98 + 2 * (p + 1)), HO2, HB2⟩, by simp [intOf]; omega⟩
        · go_wp2_with fail
          have hp17 : p = 17 := by omega
          have hm' := hm.out
          rw [hp17] at hm'
          rw [hm'] at HO
          clear hpn hp1 hp2 hm' hp17 hm
          go_loopw [1, 4] (fun vl vi wr => ∃ p m : Nat, vi = .int .i64 p ∧ p ≤ 5 ∧ Hid (m = 132 + p) ∧ Hid (wr.ownsRow w.heap.size 53 5 vl m ((Opx.RT.take m).flatMap rcells)) ∧ Hid (Below w.heap.size w wr))
            (fun _ vi _ => 5 - (intOf vi).toNat)
          case atStart => exact ⟨0, 132, rfl, by omega, rfl, HO, HB⟩
          case round =>
            clear HO HB hsw
            obtain ⟨p, m, rfl, hp2, hm, HO, HB⟩ := hrel
            have hsw := HB.out.size
            by_cases hpn : p ≤ 4
            · have hd2 : (dig p).length ≤ 2 := by unfold dig; split <;> simp
              have hdg := fun W => Lib.hid (digits_any p W (by omega))
              obtain ⟨xa, hx, hx1, hx2, hx3, hx4, hx5⟩ : ∃ x, Opx.RT[m]? = some x ∧ (160 + (p : Int)) = (x.1 : Int) ∧ ({ data := #[76, 79, 71] } ++ { data := (dig p).toArray } : ByteArray) = ⟨x.2.name.toArray⟩ ∧ (x.2.gas : Int) = 375 ∧ (x.2.inn : Int) = (p : Int) + 2 ∧ (x.2.out : Int) = 0 := by
                refine ⟨_, by rw [hm.out]; exact Opx.rrows_log p (by omega), by simp, str_app [76, 79, 71] (dig p), rfl, by simp, rfl⟩
              have HXa := Lib.hid (And.intro hx (And.intro hx1 (And.intro hx2 (And.intro hx3 (And.intro hx4 hx5)))))
              clear hx hx1 hx2 hx3 hx4 hx5
              generalize dig p = d at hd2 hdg HXa
              go_wp2_with fail
              refine (hdg _).out.mono ?_
              rintro e w2a ⟨rfl, hb2⟩
              have hc2 := still_there (w := wr) (C := #[.int .i64 (160 + (p : Int))]) (t := 3) (w1 := w2a) (by simpa using hb2)
              have HCa := Lib.hid hc2; have hzza := hc2.2.1; clear hc2 hb2
              go_wp2_with fail
              refine (group_at [xa] _ _ 1 _ _ _ _ _ _ _ _ rfl (by decide) (by exact (alloc_block hzza _).trans HCa.out.1) (by exact (Go.MapKept.heap_alloc _ _).1) (by exact one_int HXa.out.2.1) (by exact one_str HXa.out.2.2.1) (by exact one_row HXa.out.2.2.2) (by decide) (by simp; omega) (by simp)).mono ?_
              rintro e w3a ⟨gga, capa, rfl, hcs, hb3⟩
              have hbb : Below w.heap.size w w3a := ((HB.out.trans (HCa.out.2.2.mono hsw)).alloc (by omega) _).trans (hb3.mono (by simp; omega))
              have ho := ownsRow_below ((ownsRow_below HO.out HCa.out.2.2 (Nat.le_refl _)).alloc _) hb3 (Nat.le_refl _)
              have hsz := hbb.size
              have hm100 : m < 144 := by have := hm.out; omega
              clear hb3 HO HB
              go_wp2_with (at_builtin; refine wpList_append_own _ rfl _ _ 50 rfl w.heap.size 53 i0 _ 5 48 Tryd.underlying50 hi hz0 hz1 hz2 rfl (by decide) _ _ _ rfl ho ⟨gga, 0, none⟩ 1 capa _ rfl (by rw [rcells_length]; rfl) hcs (rcells_one _) (by unfold maxLen; omega) (by omega) hsz ?_; intro v1 wx ho1 hg1 _; have HO1 := row_next (m := m) ho1 (take_one HXa.out.1); have HB1 := Lib.hid (below_grown_own hbb ho hg1 hsz); clear ho1 hg1 ho hbb hsz hcs hm100 hzza)
              exact ⟨⟨p + 1, m + 1, by go_num, by omega, by have := hm.out; exact (by omega : m + 1 = 132 + (p + 1)), HO1, HB1⟩, by simp [intOf]; omega⟩
            · go_wp2_with fail
              have hp5 : p = 5 := by omega
              have hm' := hm.out
              rw [hp5] at hm'
              rw [hm'] at HO
              clear hpn hp2 hm' hp5 hm hsw
              go_wp2_with fail
              refine (group_at ((Opx.RT.drop 137).take 1) _ _ 1 _ _ _ _ _ _ _ _ (by kernel_rfl) (by decide) (by exact two_first _ _ _ _ _) (by exact two_second _ _ _ _ _) (by kernel_rfl) (by kernel_rfl) (by decide) (by decide) (by simp; omega) (by simp)).mono ?_
              rintro e w138 ⟨gg, cap, rfl, hcs, hb⟩
              have ho := ownsRow_below (ownsRow_two HO.out _ _) hb (Nat.le_refl _)
              have hbb := below_two HB.out hb HB.out.size
              have hsz := hbb.size
              clear hb HO HB
              go_wp2_with (at_builtin; refine wpList_append_own _ rfl _ _ 50 rfl w.heap.size 53 i0 _ 5 48 Tryd.underlying50 hi hz0 hz1 hz2 rfl (by decide) _ _ _ rfl ho ⟨gg, 0, none⟩ 1 cap _ rfl (by rw [rcells_length]; rfl) hcs (rcells_one _) (by decide) (by decide) hsz ?_; intro v138 x138 ho1 hg1 _; have HO := row_next (m := 137) ho1 (by kernel_rfl); have HB := Lib.hid (below_grown_own hbb ho hg1 hsz); clear ho1 hg1 ho hbb hsz hcs)
              go_wp2_with fail
              refine (group_at ((Opx.RT.drop 138).take 1) _ _ 1 _ _ _ _ _ _ _ _ (by kernel_rfl) (by decide) (by exact two_first _ _ _ _ _) (by exact two_second _ _ _ _ _) (by kernel_rfl) (by kernel_rfl) (by decide) (by decide) (by simp; omega) (by simp)).mono ?_
              rintro e w139 ⟨gg, cap, rfl, hcs, hb⟩
              have ho := ownsRow_below (ownsRow_two HO.out _ _) hb (Nat.le_refl _)
              have hbb := below_two HB.out hb HB.out.size
              have hsz := hbb.size
              clear hb HO HB
              go_wp2_with (at_builtin; refine wpList_append_own _ rfl _ _ 50 rfl w.heap.size 53 i0 _ 5 48 Tryd.underlying50 hi hz0 hz1 hz2 rfl (by decide) _ _ _ rfl ho ⟨gg, 0, none⟩ 1 cap _ rfl (by rw [rcells_length]; rfl) hcs (rcells_one _) (by decide) (by decide) hsz ?_; intro v139 x139 ho1 hg1 _; have HO := row_next (m := 138) ho1 (by kernel_rfl); have HB := Lib.hid (below_grown_own hbb ho hg1 hsz); clear ho1 hg1 ho hbb hsz hcs)
              go_wp2_with fail
              refine (group_at ((Opx.RT.drop 139).take 2) _ _ 2 _ _ _ _ _ _ _ _ (by kernel_rfl) (by decide) (by exact two_first _ _ _ _ _) (by exact two_second _ _ _ _ _) (by kernel_rfl) (by kernel_rfl) (by decide) (by decide) (by simp; omega) (by simp)).mono ?_
              rintro e w140 ⟨gg, cap, rfl, hcs, hb⟩
              have ho := ownsRow_below (ownsRow_two HO.out _ _) hb (Nat.le_refl _)
              have hbb := below_two HB.out hb HB.out.size
              have hsz := hbb.size
              clear hb HO HB
              go_wp2_with (at_builtin; refine wpList_append_own _ rfl _ _ 50 rfl w.heap.size 53 i0 _ 5 48 Tryd.underlying50 hi hz0 hz1 hz2 rfl (by decide) _ _ _ rfl ho ⟨gg, 0, none⟩ 2 cap _ rfl (by rw [rcells_length]; rfl) hcs (rcells_one _) (by decide) (by decide) hsz ?_; intro v141 x141 ho1 hg1 _; have HO := row_next (m := 139) ho1 (by kernel_rfl); have HB := Lib.hid (below_grown_own hbb ho hg1 hsz); clear ho1 hg1 ho hbb hsz hcs)
              go_wp2_with fail
              refine (group_at ((Opx.RT.drop 141).take 2) _ _ 2 _ _ _ _ _ _ _ _ (by kernel_rfl) (by decide) (by exact two_first _ _ _ _ _) (by exact two_second _ _ _ _ _) (by kernel_rfl) (by kernel_rfl) (by decide) (by decide) (by simp; omega) (by simp)).mono ?_
              rintro e w142 ⟨gg, cap, rfl, hcs, hb⟩
              have ho := ownsRow_below (ownsRow_two HO.out _ _) hb (Nat.le_refl _)
              have hbb := below_two HB.out hb HB.out.size
              have hsz := hbb.size
              clear hb HO HB
              go_wp2_with (at_builtin; refine wpList_append_own _ rfl _ _ 50 rfl w.heap.size 53 i0 _ 5 48 Tryd.underlying50 hi hz0 hz1 hz2 rfl (by decide) _ _ _ rfl ho ⟨gg, 0, none⟩ 2 cap _ rfl (by rw [rcells_length]; rfl) hcs (rcells_one _) (by decide) (by decide) hsz ?_; intro v143 x143 ho1 hg1 _; have HO := row_next (m := 141) ho1 (by kernel_rfl); have HB := Lib.hid (below_grown_own hbb ho hg1 hsz); clear ho1 hg1 ho hbb hsz hcs)
              go_wp2_with fail
              refine (group_at ((Opx.RT.drop 143).take 1) _ _ 1 _ _ _ _ _ _ _ _ (by kernel_rfl) (by decide) (by exact two_first _ _ _ _ _) (by exact two_second _ _ _ _ _) (by kernel_rfl) (by kernel_rfl) (by decide) (by decide) (by simp; omega) (by simp)).mono ?_
              rintro e w144 ⟨gg, cap, rfl, hcs, hb⟩
              have ho := ownsRow_below (ownsRow_two HO.out _ _) hb (Nat.le_refl _)
              have hbb := below_two HB.out hb HB.out.size
              have hsz := hbb.size
              clear hb HO HB
              go_wp2_with (at_builtin; refine wpList_append_own _ rfl _ _ 50 rfl w.heap.size 53 i0 _ 5 48 Tryd.underlying50 hi hz0 hz1 hz2 rfl (by decide) _ _ _ rfl ho ⟨gg, 0, none⟩ 1 cap _ rfl (by rw [rcells_length]; rfl) hcs (rcells_one _) (by decide) (by decide) hsz ?_; intro v144 x144 ho1 hg1 _; have HO := row_next (m := 143) ho1 (by kernel_rfl); have HB := Lib.hid (below_grown_own hbb ho hg1 hsz); clear ho1 hg1 ho hbb hsz hcs)
              go_ret
              have ho := HO.out
              rw [List.take_of_length_le (by rw [Opx.RT_length]; omega)] at ho
              rcases ho.2 with ⟨_, h0⟩ | ⟨g, cap, cur, hv, h1, h2, h3, h4, h5, h6⟩
              · omega
              · have he : Ending.returned v144 = .returned (.slice (some ⟨g, 0, none⟩) 144 cap) := by rw [hv]
                refine ⟨g, cap, he, h1, ?_, HB.out⟩
                intro j u hu
                rw [cell_of h2 j, ← Array.getElem?_toList]
                rw [← h6, List.getElem?_take] at hu
                split at hu
                · exact hu
                · cases hu
end Go.Proofs.YtnachjhhbhhpoaaDoor
