/-
  stithyref12.Of, stithyref12.Code: what the document's table tells.
-/
import Derived.Test.YtnachjhhbhhpoaaDoorOpH
namespace Go.Proofs.YtnachjhhbhhpoaaDoor
open Go.RowKit Go.Shelf
theorem flat5 : ∀ (l : List (Nat × Opx.Inf)) (k j : Nat) (x : Nat × Opx.Inf), l[k]? = some x → j < 5 → (l.flatMap rcells)[k * 5 + j]? = (rcells x)[j]?
  | [], k, j, x, h, _ => by simp at h
  | y :: l, 0, j, x, h, hj => by
    simp at h; subst h
    simp only [List.flatMap_cons]
    rw [List.getElem?_append_left (by simp [rcells]; omega)]; simp
  | y :: l, k + 1, j, x, h, hj => by
    simp only [List.flatMap_cons]
    rw [List.getElem?_append_right (by simp [rcells]; omega)]
    have : (k + 1) * 5 + j - (rcells y).length = k * 5 + j := by simp [rcells]; omega
    rw [this]; exact flat5 l k j x (by simpa using h) hj
theorem row_cells {gg k : Nat} {w : World} {x : Nat × Opx.Inf} (hc : ∀ j u, (Opx.RT.flatMap rcells)[j]? = some u → w.cell? ⟨gg, j, none⟩ = some u) (hx : Opx.RT[k]? = some x) :
    w.cell? ⟨gg, k * 5, none⟩ = some (.int .i64 (x.1 : Int)) ∧ w.cell? ⟨gg, k * 5 + 1, none⟩ = some (.string ⟨x.2.name.toArray⟩) ∧ w.cell? ⟨gg, k * 5 + 2, none⟩ = some (.int .u64 (x.2.gas : Int)) ∧
      w.cell? ⟨gg, k * 5 + 3, none⟩ = some (.int .i64 (x.2.inn : Int)) ∧ w.cell? ⟨gg, k * 5 + 4, none⟩ = some (.int .i64 (x.2.out : Int)) :=
  ⟨hc _ _ (flat5 _ k 0 x hx (by omega)), hc _ _ (flat5 _ k 1 x hx (by omega)), hc _ _ (flat5 _ k 2 x hx (by omega)), hc _ _ (flat5 _ k 3 x hx (by omega)), hc _ _ (flat5 _ k 4 x hx (by omega))⟩
theorem RT_small : ∀ x, x ∈ Opx.RT → x.1 < 256 := fun x hx => Opx.T_small x (Opx.RT_in_T x hx)
/-- The first hit. -/
theorem find_first {p : Nat × Opx.Inf → Bool} {l : List (Nat × Opx.Inf)} {k : Nat} {x : Nat × Opx.Inf} (hx : l[k]? = some x) (hp : p x = true) (hn : ∀ y ∈ l.take k, p y = false) : l.find? p = some x := by
  obtain ⟨hlt, hx'⟩ := List.getElem?_eq_some_iff.1 hx
  have e : l = l.take k ++ x :: l.drop (k + 1) := by rw [← hx', ← List.drop_eq_getElem_cons hlt, List.take_append_drop]
  rw [congrArg (List.find? p) e, List.find?_append, List.find?_eq_none.2 (fun y hy => by rw [hn y hy]; simp)]
  simp [List.find?, hp]
theorem take_next {p : Nat × Opx.Inf → Bool} {l : List (Nat × Opx.Inf)} {k : Nat} {x : Nat × Opx.Inf} (hx : l[k]? = some x) (hp : p x = false) (hn : ∀ y ∈ l.take k, p y = false) : ∀ y ∈ l.take (k + 1), p y = false := by
  obtain ⟨hlt, rfl⟩ := List.getElem?_eq_some_iff.1 hx
  intro y hy
  rw [List.take_succ_eq_append_getElem hlt] at hy
  rcases List.mem_append.1 hy with h | h
  · exact hn y h
  · simp at h; subst h; exact hp

set_option maxHeartbeats 4000000 in
set_option maxRecDepth 100000 in
theorem refOf_any (c : Nat) (w : World) (hc : c < 256) :
    Calls Tryd.prog 10 #[.int .u8 (c : Int)] w fun e w' => e = .returned (.tuple #[infv (infOf c), .bool (known c)]) ∧ Below w.heap.size w w' := by
  go_enter Tryd.func10, Tryd.ntmps10
  go_wp2_with fail
  refine (refAll_any _).mono ?_
  rintro e w1 ⟨gg, cap, rfl, hgg, hcs, hb⟩
  simp only [World.size_alloc] at hgg hb
  obtain ⟨hb0, hz1, hbw⟩ := still_there hb
  have c0 : w1.cell? ⟨w.heap.size, 0, none⟩ = some (.string ByteArray.empty) := cell_of hb0 0
  have c1 : w1.cell? ⟨w.heap.size, 1, none⟩ = some (.int .u64 0) := cell_of hb0 1
  have c2 : w1.cell? ⟨w.heap.size, 2, none⟩ = some (.int .i64 0) := cell_of hb0 2
  have c3 : w1.cell? ⟨w.heap.size, 3, none⟩ = some (.int .i64 0) := cell_of hb0 3
  have f0 : w1.frozen? ⟨w.heap.size, 0, none⟩ = false := free_of hb0 0
  have f1 : w1.frozen? ⟨w.heap.size, 1, none⟩ = false := free_of hb0 1
  have f2 : w1.frozen? ⟨w.heap.size, 2, none⟩ = false := free_of hb0 2
  have f3 : w1.frozen? ⟨w.heap.size, 3, none⟩ = false := free_of hb0 3
  have Hb := Lib.hid hbw
  have Hbk := Lib.hid hb0
  have Hcs := Lib.hid hcs
  clear hb hb0 hbw hcs
  go_wp2_with fail
  go_loop [5] (fun vi => ∃ k : Nat, vi = .int .i64 k ∧ k ≤ 144 ∧ Hid (∀ y ∈ Opx.RT.take k, (y.1 == c) = false)) (fun vi => 144 - (intOf vi).toNat)
  case atStart => exact ⟨0, rfl, by omega, by intro y hy; simp at hy⟩
  case round =>
    obtain ⟨k, rfl, hk, hn⟩ := hrel
    by_cases hlt : k < 144
    · obtain ⟨x, hx⟩ : ∃ x, Opx.RT[k]? = some x := ⟨Opx.RT[k]'(by rw [Opx.RT_length]; exact hlt), by simp [Opx.RT_length, hlt]⟩
      obtain ⟨r0, r1, r2, r3, r4⟩ := row_cells Hcs.out hx
      have hne : gg ≠ w.heap.size := by omega
      by_cases hxc : x.1 = c
      · have hq : ((x.1 : Int) == (c : Int)) = true := by rw [hxc]; simp
        have hl : Opx.look Opx.T c = some x.2 := by
          rw [Opx.look_eq c hc]; unfold Opx.look
          rw [find_first hx (by simpa using hxc) hn.out]; rfl
        have HL := Lib.hid hl; clear hl hx hxc
        go_wp2_with fail
        have he : Ending.returned (.tuple #[.agg #[.string { data := x.2.name.toArray }, .int .u64 (x.2.gas : Int), .int .i64 (x.2.inn : Int), .int .i64 (x.2.out : Int)], .bool true]) = .returned (.tuple #[infv (infOf c), .bool (known c)]) := by
          unfold infOf known; rw [HL.out]; rfl
        refine bodyPost_ret (results_row_tmp Tryd.results10 _ _ w.heap.size 28 #[.string { data := x.2.name.toArray }, .int .u64 (x.2.gas : Int), .int .i64 (x.2.inn : Int), .int .i64 (x.2.out : Int)] (0, 0) _ rfl
          (setCell_block (setCell_block (setCell_block (setCell_block Hbk.out 0 _) 1 _) 2 _) 3 _) Tryd.underlying28 rfl (by kernel_rfl)) rfl ⟨he, ?_⟩
        exact (((Hb.out.setCell (Nat.le_refl _) _).setCell (Nat.le_refl _) _).setCell (Nat.le_refl _) _).setCell (Nat.le_refl _) _
      · have hq : ((x.1 : Int) == (c : Int)) = false := by simp; omega
        have hn' := Lib.hid (take_next hx (by simpa using hxc) hn.out)
        clear hx hxc
        go_wp2_with fail
        exact ⟨⟨k + 1, by go_num, by omega, hn'⟩, by simp [intOf]; omega⟩
    · have hl : Opx.look Opx.T c = none := by
        rw [Opx.look_eq c hc]; unfold Opx.look
        rw [List.find?_eq_none.2]
        · rfl
        · intro y hy
          have := hn.out y (by rw [List.take_of_length_le (by rw [Opx.RT_length]; omega)]; exact hy)
          simp [this]
      have HL := Lib.hid hl; clear hl
      go_wp2_with fail
      have he : Ending.returned (.tuple #[.agg #[.string { data := #[] }, .int .u64 0, .int .i64 0, .int .i64 0], .bool false]) = .returned (.tuple #[infv (infOf c), .bool (known c)]) := by
        unfold infOf known; rw [HL.out]; rfl
      refine bodyPost_ret (results_row_tmp Tryd.results10 _ _ w.heap.size 28 #[.string { data := #[] }, .int .u64 0, .int .i64 0, .int .i64 0] (0, 0) _ rfl
        (setCell_block (setCell_block (setCell_block (setCell_block Hbk.out 0 _) 1 _) 2 _) 3 _) Tryd.underlying28 rfl (by kernel_rfl)) rfl ⟨he, ?_⟩
      exact (((Hb.out.setCell (Nat.le_refl _) _).setCell (Nat.le_refl _) _).setCell (Nat.le_refl _) _).setCell (Nat.le_refl _) _

set_option maxHeartbeats 4000000 in
set_option maxRecDepth 100000 in
theorem refCode_any (s : ByteArray) (w : World) :
    Calls Tryd.prog 12 #[.string s] w fun e w' => e = .returned (.tuple #[.int .u8 (codeOf s.data.toList : Int), .bool (named s.data.toList)]) ∧ Below w.heap.size w w' := by
  go_enter Tryd.func12, Tryd.ntmps12
  go_wp2_with fail
  refine (refAll_any _).mono ?_
  rintro e w1 ⟨gg, cap, rfl, hgg, hcs, hb⟩
  have Hb := Lib.hid hb
  have Hcs := Lib.hid hcs
  clear hb hcs
  go_wp2_with fail
  go_loop [5] (fun vi => ∃ k : Nat, vi = .int .i64 k ∧ k ≤ 144 ∧ Hid (∀ y ∈ Opx.RT.take k, (y.2.name == s.data.toList) = false)) (fun vi => 144 - (intOf vi).toNat)
  case atStart => exact ⟨0, rfl, by omega, by intro y hy; simp at hy⟩
  case round =>
    obtain ⟨k, rfl, hk, hn⟩ := hrel
    by_cases hlt : k < 144
    · obtain ⟨x, hx⟩ : ∃ x, Opx.RT[k]? = some x := ⟨Opx.RT[k]'(by rw [Opx.RT_length]; exact hlt), by simp [Opx.RT_length, hlt]⟩
      obtain ⟨r0, r1, r2, r3, r4⟩ := row_cells Hcs.out hx
      have hx256 := RT_small x (List.mem_of_getElem? hx)
      by_cases hxc : x.2.name = s.data.toList
      · have hne : (x.2.name == s.toList) = true := by rw [ByteArray.toList_eq]; simpa using hxc
        have hl : Opx.code Opx.T s.data.toList = some x.1 := by
          rw [Opx.code_eq]; unfold Opx.code
          rw [find_first hx (by simpa using hxc) hn.out]; rfl
        have HL := Lib.hid hl; clear hl hx hxc
        go_wp2_with fail
        go_ret2
        exact ⟨ret2 (by unfold codeOf; rw [HL.out]; rfl) (by unfold named; rw [HL.out]; rfl), Hb.out⟩
      · have hne : (x.2.name == s.toList) = false := by rw [ByteArray.toList_eq]; simpa using hxc
        have hn' := Lib.hid (take_next hx (by simpa using hxc) hn.out)
        clear hx hxc
        go_wp2_with fail
        exact ⟨⟨k + 1, by go_num, by omega, hn'⟩, by simp [intOf]; omega⟩
    · have hl : Opx.code Opx.T s.data.toList = none := by
        rw [Opx.code_eq]; unfold Opx.code
        rw [List.find?_eq_none.2]
        · rfl
        · intro y hy
          have := hn.out y (by rw [List.take_of_length_le (by rw [Opx.RT_length]; omega)]; exact hy)
          simp [this]
      have HL := Lib.hid hl; clear hl
      go_wp2_with fail
      go_ret2
      exact ⟨ret2 (by unfold codeOf; rw [HL.out]; rfl) (by unfold named; rw [HL.out]; rfl), Hb.out⟩
end Go.Proofs.YtnachjhhbhhpoaaDoor
