/-
  A world over nothing: what is moved.
-/
import Derived.Test.YtbjkdnbmgoibiaaGreatDoorWd
import Derived.Test.YtbjkdnbmgoibiaaGreatDoorWq
namespace Go.Proofs.YtbjkdnbmgoibiaaGreatDoor
open Go.RowKit Go.MapKept
attribute [local go_sem ↓] Go.wp_at_zero Go.wp_at_succ
theorem two_cells (w : World) (o : Obj) (a b : ByteArray) (t : TypeId) : ((w.alloc o).alloc (.cells #[.string a, .string b] t)).cell? ⟨w.heap.size + 1, 0, none⟩ = some (.string a) ∧ ((w.alloc o).alloc (.cells #[.string a, .string b] t)).cell? ⟨w.heap.size + 1, 1, none⟩ = some (.string b) :=
  ⟨cell_of (newest2 _ _ _) 0, cell_of (newest2 _ _ _) 1⟩
set_option maxHeartbeats 2000000 in
set_option maxRecDepth 100000 in
theorem move_funds (p : Nat) (S : St) (H : List St) (a b : ByteArray) (v : Wd) (w : World) (hw : WIs w p (.pointer none) S H) (ha : a.size = 20) (hb : b.size = 20) (hv : v.Ok) (hA : (S.account a).bal.Ok) (hl : (S.account a).bal.less v = true) :
    Calls Tryz.prog 13 #[.pointer (some ⟨p, 0, none⟩), .string a, .string b, wv v] w fun e w' => e = .returned (.int .i64 8) ∧ Below w.heap.size w w' := by
  have hr := fun W hc hc' => Lib.hid (right_two a b (w.heap.size + 1) W hc hc' (by omega) (by omega))
  rw [show (a.size == 20 && b.size == 20) = true from by simp [ha, hb]] at hr
  have hac := fun W hW => Lib.hid (account_any a p S H W hW ha)
  obtain ⟨x, hx⟩ : ∃ x, x = S.account a := ⟨_, rfl⟩
  rw [← hx] at hac hA hl
  have hle := fun W => Lib.hid (less_any x.bal v hA hv W)
  rw [hl] at hle
  have HW := Lib.hid hw
  clear hw ha hb hx hl
  go_enter Tryz.func13, Tryz.ntmps13
  go_wp2_with fail
  refine (hr _ (two_cells _ _ _ _ _).1 (two_cells _ _ _ _ _).2).out.mono ?_
  rintro e w1 ⟨rfl, rfl⟩
  have hB1 := below2 w (.cells #[.int .u64 (v.a : Int), .int .u64 (v.b : Int), .int .u64 (v.c : Int), .int .u64 (v.d : Int)] 24) (.cells #[.string a, .string b] 9)
  have hbk : ((w.alloc (.cells #[.int .u64 (v.a : Int), .int .u64 (v.b : Int), .int .u64 (v.c : Int), .int .u64 (v.d : Int)] 24)).alloc (.cells #[.string a, .string b] 9)).heap[w.heap.size]? = some (.cells #[.int .u64 (v.a : Int), .int .u64 (v.b : Int), .int .u64 (v.c : Int), .int .u64 (v.d : Int)] 24) := by
    rw [alloc_block (by simp)]; exact newest w _
  generalize hW1 : ((w.alloc (.cells #[.int .u64 (v.a : Int), .int .u64 (v.b : Int), .int .u64 (v.c : Int), .int .u64 (v.d : Int)] 24)).alloc (.cells #[.string a, .string b] 9)) = W1 at hB1 hbk ⊢
  have HB1 := Lib.hid hB1; have Hbk := Lib.hid hbk
  clear hW1 hB1 hbk hr
  go_wp2_with fail
  refine (hac _ (HW.out.below HB1.out)).out.mono ?_
  rintro e w2 ⟨rfl, hb2⟩
  have hvl : w.heap.size < W1.heap.size := (Array.getElem?_eq_some_iff.1 Hbk.out).1
  have hbk2 : w2.heap[w.heap.size]? = some (.cells #[.int .u64 (v.a : Int), .int .u64 (v.b : Int), .int .u64 (v.c : Int), .int .u64 (v.d : Int)] 24) := by rw [hb2.block _ hvl]; exact Hbk.out
  have hvl2 : w.heap.size < w2.heap.size := (Array.getElem?_eq_some_iff.1 hbk2).1
  have c0 : w2.cell? ⟨w.heap.size, 0, none⟩ = some (.int .u64 (v.a : Int)) := cell_of hbk2 0
  have c1 : w2.cell? ⟨w.heap.size, 1, none⟩ = some (.int .u64 (v.b : Int)) := cell_of hbk2 1
  have c2 : w2.cell? ⟨w.heap.size, 2, none⟩ = some (.int .u64 (v.c : Int)) := cell_of hbk2 2
  have c3 : w2.cell? ⟨w.heap.size, 3, none⟩ = some (.int .u64 (v.d : Int)) := cell_of hbk2 3
  have HB2 := Lib.hid (HB1.out.trans (hb2.mono (by omega)))
  clear hb2 hbk2 hac HB1 Hbk
  go_wp2_with fail
  refine (hle _).out.mono ?_
  rintro e w3 ⟨rfl, hb3⟩
  have HB3 := Lib.hid hb3; clear hb3
  go_wp2_with fail
  go_ret
  exact ⟨rfl, (HB2.out.alloc (by omega) _).trans (HB3.out.mono (by simp only [World.size_alloc]; omega))⟩
set_option maxHeartbeats 2000000 in
set_option maxRecDepth 100000 in
theorem move_same (p : Nat) (S : St) (H : List St) (a : ByteArray) (v : Wd) (w : World) (hw : WIs w p (.pointer none) S H) (ha : a.size = 20) (hv : v.Ok) (hA : (S.account a).bal.Ok) (hl : (S.account a).bal.less v = false) :
    Calls Tryz.prog 13 #[.pointer (some ⟨p, 0, none⟩), .string a, .string a, wv v] w fun e w' => e = .returned (.int .i64 0) ∧ Below w.heap.size w w' := by
  have hr := fun W hc hc' => Lib.hid (right_two a a (w.heap.size + 1) W hc hc' (by omega) (by omega))
  rw [show (a.size == 20 && a.size == 20) = true from by simp [ha]] at hr
  have hac := fun W hW => Lib.hid (account_any a p S H W hW ha)
  obtain ⟨x, hx⟩ : ∃ x, x = S.account a := ⟨_, rfl⟩
  rw [← hx] at hac hA hl
  have hle := fun W => Lib.hid (less_any x.bal v hA hv W)
  rw [hl] at hle
  have HW := Lib.hid hw
  clear hw ha hx hl
  go_enter Tryz.func13, Tryz.ntmps13
  go_wp2_with fail
  refine (hr _ (two_cells _ _ _ _ _).1 (two_cells _ _ _ _ _).2).out.mono ?_
  rintro e w1 ⟨rfl, rfl⟩
  have hB1 := below2 w (.cells #[.int .u64 (v.a : Int), .int .u64 (v.b : Int), .int .u64 (v.c : Int), .int .u64 (v.d : Int)] 24) (.cells #[.string a, .string a] 9)
  have hbk : ((w.alloc (.cells #[.int .u64 (v.a : Int), .int .u64 (v.b : Int), .int .u64 (v.c : Int), .int .u64 (v.d : Int)] 24)).alloc (.cells #[.string a, .string a] 9)).heap[w.heap.size]? = some (.cells #[.int .u64 (v.a : Int), .int .u64 (v.b : Int), .int .u64 (v.c : Int), .int .u64 (v.d : Int)] 24) := by
    rw [alloc_block (by simp)]; exact newest w _
  generalize hW1 : ((w.alloc (.cells #[.int .u64 (v.a : Int), .int .u64 (v.b : Int), .int .u64 (v.c : Int), .int .u64 (v.d : Int)] 24)).alloc (.cells #[.string a, .string a] 9)) = W1 at hB1 hbk ⊢
  have HB1 := Lib.hid hB1; have Hbk := Lib.hid hbk
  clear hW1 hB1 hbk hr
  go_wp2_with fail
  refine (hac _ (HW.out.below HB1.out)).out.mono ?_
  rintro e w2 ⟨rfl, hb2⟩
  have hvl : w.heap.size < W1.heap.size := (Array.getElem?_eq_some_iff.1 Hbk.out).1
  have hbk2 : w2.heap[w.heap.size]? = some (.cells #[.int .u64 (v.a : Int), .int .u64 (v.b : Int), .int .u64 (v.c : Int), .int .u64 (v.d : Int)] 24) := by rw [hb2.block _ hvl]; exact Hbk.out
  have hvl2 : w.heap.size < w2.heap.size := (Array.getElem?_eq_some_iff.1 hbk2).1
  have c0 : w2.cell? ⟨w.heap.size, 0, none⟩ = some (.int .u64 (v.a : Int)) := cell_of hbk2 0
  have c1 : w2.cell? ⟨w.heap.size, 1, none⟩ = some (.int .u64 (v.b : Int)) := cell_of hbk2 1
  have c2 : w2.cell? ⟨w.heap.size, 2, none⟩ = some (.int .u64 (v.c : Int)) := cell_of hbk2 2
  have c3 : w2.cell? ⟨w.heap.size, 3, none⟩ = some (.int .u64 (v.d : Int)) := cell_of hbk2 3
  have HB2 := Lib.hid (HB1.out.trans (hb2.mono (by omega)))
  clear hb2 hbk2 HB1 Hbk
  go_wp2_with fail
  refine (hle _).out.mono ?_
  rintro e w3 ⟨rfl, hb3⟩
  have hs3 := hb3.size
  simp only [World.size_alloc] at hs3
  have HB3 := Lib.hid ((HB2.out.alloc (by omega) _).trans (hb3.mono (by simp only [World.size_alloc]; omega))); clear hb3
  go_wp2_with fail
  refine (hac _ (HW.out.below HB3.out)).out.mono ?_
  rintro e w4 ⟨rfl, hb4⟩
  have HB4 := Lib.hid (HB3.out.trans (hb4.mono (by omega))); clear hb4 hac
  go_wp2_with fail
  go_ret
  exact ⟨rfl, HB4.out.alloc HB4.out.size _⟩
theorem bytes_ne {a b : ByteArray} (h : a ≠ b) : (a.toList == b.toList) = false := by
  rw [beq_eq_false_iff_ne]
  intro e
  rw [ByteArray.toList_eq, ByteArray.toList_eq] at e
  exact h (by rw [← str_of a, ← str_of b, e])
/-- A word's four cells. -/
theorem wd_cells {w : World} {n : Nat} {v : Wd} (h : w.heap[n]? = some (.cells #[.int .u64 (v.a : Int), .int .u64 (v.b : Int), .int .u64 (v.c : Int), .int .u64 (v.d : Int)] 24 (0, 0))) :
    w.cell? ⟨n, 0, none⟩ = some (.int .u64 (v.a : Int)) ∧ w.cell? ⟨n, 1, none⟩ = some (.int .u64 (v.b : Int)) ∧ w.cell? ⟨n, 2, none⟩ = some (.int .u64 (v.c : Int)) ∧ w.cell? ⟨n, 3, none⟩ = some (.int .u64 (v.d : Int)) :=
  ⟨cell_of h 0, cell_of h 1, cell_of h 2, cell_of h 3⟩
/-- An account's cells: what it owns. -/
theorem ac_bal {w : World} {n : Nat} {x : Ac} (h : w.heap[n]? = some (.cells (acCells x) 33 (0, 0))) :
    (w.cell? ⟨n, 1, none⟩ = some (.int .u64 (x.bal.a : Int)) ∧ w.cell? ⟨n, 2, none⟩ = some (.int .u64 (x.bal.b : Int)) ∧ w.cell? ⟨n, 3, none⟩ = some (.int .u64 (x.bal.c : Int)) ∧ w.cell? ⟨n, 4, none⟩ = some (.int .u64 (x.bal.d : Int))) ∧
    w.frozen? ⟨n, 1, none⟩ = false ∧ w.frozen? ⟨n, 2, none⟩ = false ∧ w.frozen? ⟨n, 3, none⟩ = false ∧ w.frozen? ⟨n, 4, none⟩ = false :=
  ⟨⟨cell_of h 1, cell_of h 2, cell_of h 3, cell_of h 4⟩, free_of h 1, free_of h 2, free_of h 3, free_of h 4⟩
theorem ac_all {w : World} {n : Nat} {x : Ac} (h : w.heap[n]? = some (.cells (acCells x) 33 (0, 0))) :
    w.cell? ⟨n, 0, none⟩ = some (.int .u64 (x.nonce : Int)) ∧ w.cell? ⟨n, 1, none⟩ = some (.int .u64 (x.bal.a : Int)) ∧ w.cell? ⟨n, 2, none⟩ = some (.int .u64 (x.bal.b : Int)) ∧ w.cell? ⟨n, 3, none⟩ = some (.int .u64 (x.bal.c : Int)) ∧ w.cell? ⟨n, 4, none⟩ = some (.int .u64 (x.bal.d : Int)) ∧ w.cell? ⟨n, 5, none⟩ = some (.string x.code) :=
  ⟨cell_of h 0, cell_of h 1, cell_of h 2, cell_of h 3, cell_of h 4, cell_of h 5⟩
/-- What a move has at hand: its word, the two accounts, each in a block of its own. -/
structure MvAt (w W : World) (nv nx ny : Nat) (v : Wd) (x y : Ac) : Prop where
  v : W.heap[nv]? = some (.cells #[.int .u64 (v.a : Int), .int .u64 (v.b : Int), .int .u64 (v.c : Int), .int .u64 (v.d : Int)] 24 (0, 0))
  x : W.heap[nx]? = some (.cells (acCells x) 33 (0, 0))
  y : W.heap[ny]? = some (.cells (acCells y) 33 (0, 0))
  b : Below w.heap.size w W
theorem MvAt.below {w W W' : World} {nv nx ny : Nat} {v : Wd} {x y : Ac} (h : MvAt w W nv nx ny v x y) (hb : Below W.heap.size W W') : MvAt w W' nv nx ny v x y :=
  ⟨by rw [hb.block _ (Array.getElem?_eq_some_iff.1 h.v).1]; exact h.v, by rw [hb.block _ (Array.getElem?_eq_some_iff.1 h.x).1]; exact h.x, by rw [hb.block _ (Array.getElem?_eq_some_iff.1 h.y).1]; exact h.y, h.b.trans (hb.mono h.b.size)⟩
theorem mv_shut {w W : World} {nv nx ny : Nat} {v : Wd} {x y : Ac} (h : MvAt w W nv nx ny v x y) (n1 : nv ≠ nx) (n2 : nv ≠ ny) (n3 : nx ≠ ny) (hx : w.heap.size ≤ nx) (hy : w.heap.size ≤ ny) (z1 z2 : Wd) :
    MvAt w ((((((((W.setCell ⟨nx, 1, none⟩ (.int .u64 (z1.a : Int))).setCell ⟨nx, 2, none⟩ (.int .u64 (z1.b : Int))).setCell ⟨nx, 3, none⟩ (.int .u64 (z1.c : Int))).setCell ⟨nx, 4, none⟩ (.int .u64 (z1.d : Int))).setCell
      ⟨ny, 1, none⟩ (.int .u64 (z2.a : Int))).setCell ⟨ny, 2, none⟩ (.int .u64 (z2.b : Int))).setCell ⟨ny, 3, none⟩ (.int .u64 (z2.c : Int))).setCell ⟨ny, 4, none⟩ (.int .u64 (z2.d : Int))) nv nx ny v { x with bal := z1 } { y with bal := z2 } := by
  have o : ∀ (W : World) (k b o : Nat) (u : Value), b ≠ k → (W.setCell ⟨b, o, none⟩ u).heap[k]? = W.heap[k]? := fun W k b o u h => setCell_other h o u
  refine ⟨?_, ?_, ?_, ?_⟩
  · rw [o _ nv ny _ _ (Ne.symm n2), o _ nv ny _ _ (Ne.symm n2), o _ nv ny _ _ (Ne.symm n2), o _ nv ny _ _ (Ne.symm n2), o _ nv nx _ _ (Ne.symm n1), o _ nv nx _ _ (Ne.symm n1), o _ nv nx _ _ (Ne.symm n1), o _ nv nx _ _ (Ne.symm n1)]
    exact h.v
  · rw [o _ nx ny _ _ (Ne.symm n3), o _ nx ny _ _ (Ne.symm n3), o _ nx ny _ _ (Ne.symm n3), o _ nx ny _ _ (Ne.symm n3)]
    exact setCell_block (setCell_block (setCell_block (setCell_block h.x 1 _) 2 _) 3 _) 4 _
  · have hy' : ((((W.setCell ⟨nx, 1, none⟩ (.int .u64 (z1.a : Int))).setCell ⟨nx, 2, none⟩ (.int .u64 (z1.b : Int))).setCell ⟨nx, 3, none⟩ (.int .u64 (z1.c : Int))).setCell ⟨nx, 4, none⟩ (.int .u64 (z1.d : Int))).heap[ny]? = some (.cells (acCells y) 33 (0, 0)) := by
      rw [o _ ny nx _ _ n3, o _ ny nx _ _ n3, o _ ny nx _ _ n3, o _ ny nx _ _ n3]
      exact h.y
    exact setCell_block (setCell_block (setCell_block (setCell_block hy' 1 _) 2 _) 3 _) 4 _
  · exact (((((((h.b.setCell hx _).setCell hx _).setCell hx _).setCell hx _).setCell hy _).setCell hy _).setCell hy _).setCell hy _
theorem undrew {a b : World} (h : Below a.drew.heap.size a.drew b) : Below a.heap.size a b := ⟨h.os, h.tape, h.output, h.size, h.block⟩
/-- An address has less. -/
noncomputable def St.taken (S : St) (a : ByteArray) (v : Wd) : St := { S with acc := turn S.acc a (some { S.account a with bal := (S.account a).bal.sub v }) }
/-- Another one has more. -/
noncomputable def St.moved (S : St) (a b : ByteArray) (v : Wd) : St := { S.taken a v with acc := turn (S.taken a v).acc b (some { S.account b with bal := (S.account b).bal.add v }) }
set_option maxHeartbeats 8000000 in
set_option maxRecDepth 100000 in
theorem move_zero (p : Nat) (S : St) (H : List St) (a b : ByteArray) (v : Wd) (w : World) (hw : WIs w p (.pointer none) S H) (ha : a.size = 20) (hb : b.size = 20) (hab : a ≠ b) (hv : v.Ok) (hA : (S.account a).bal.Ok) (hl : (S.account a).bal.less v = false) (hz : v = Wd.zero) :
    Calls Tryz.prog 13 #[.pointer (some ⟨p, 0, none⟩), .string a, .string b, wv v] w fun e w' => e = .returned (.int .i64 0) ∧ Below w.heap.size w w' := by
  have hr := fun W hc hc' => Lib.hid (right_two a b (w.heap.size + 1) W hc hc' (by omega) (by omega))
  rw [show (a.size == 20 && b.size == 20) = true from by simp [ha, hb]] at hr
  have hac := fun W hW => Lib.hid (account_any a p S H W hW ha)
  have hac' := fun W hW => Lib.hid (account_any b p S H W hW hb)
  obtain ⟨x, hx⟩ : ∃ x, x = S.account a := ⟨_, rfl⟩
  rw [← hx] at hac hA hl
  obtain ⟨y, hy⟩ : ∃ y, y = S.account b := ⟨_, rfl⟩
  rw [← hy] at hac'
  have hle := fun W => Lib.hid (less_any x.bal v hA hv W)
  rw [hl] at hle
  have HW := Lib.hid hw
  have hab' := bytes_ne hab
  have heq : ∀ W, (binOp .eql 24 (.agg #[.int .u64 (v.a : Int), .int .u64 (v.b : Int), .int .u64 (v.c : Int), .int .u64 (v.d : Int)]) (.agg #[.int .u64 0, .int .u64 0, .int .u64 0, .int .u64 0])).run Tryz.prog W = .ok (.bool true) W := fun W => (word_eql v Wd.zero W).trans (by rw [decide_eq_true hz])
  clear hw ha hb hab hz hx hy hl
  go_enter Tryz.func13, Tryz.ntmps13
  go_wp2_with fail
  refine (hr _ (two_cells _ _ _ _ _).1 (two_cells _ _ _ _ _).2).out.mono ?_
  rintro e w1 ⟨rfl, rfl⟩
  have hB1 := below2 w (.cells #[.int .u64 (v.a : Int), .int .u64 (v.b : Int), .int .u64 (v.c : Int), .int .u64 (v.d : Int)] 24) (.cells #[.string a, .string b] 9)
  have hbk : ((w.alloc (.cells #[.int .u64 (v.a : Int), .int .u64 (v.b : Int), .int .u64 (v.c : Int), .int .u64 (v.d : Int)] 24)).alloc (.cells #[.string a, .string b] 9)).heap[w.heap.size]? = some (.cells #[.int .u64 (v.a : Int), .int .u64 (v.b : Int), .int .u64 (v.c : Int), .int .u64 (v.d : Int)] 24) := by
    rw [alloc_block (by simp)]; exact newest w _
  generalize hW1 : ((w.alloc (.cells #[.int .u64 (v.a : Int), .int .u64 (v.b : Int), .int .u64 (v.c : Int), .int .u64 (v.d : Int)] 24)).alloc (.cells #[.string a, .string b] 9)) = W1 at hB1 hbk ⊢
  have HB1 := Lib.hid hB1; have Hbk := Lib.hid hbk
  clear hW1 hB1 hbk hr
  go_wp2_with fail
  refine (hac _ (HW.out.below HB1.out)).out.mono ?_
  rintro e w2 ⟨rfl, hb2⟩
  have hvl : w.heap.size < W1.heap.size := (Array.getElem?_eq_some_iff.1 Hbk.out).1
  have hbk2 : w2.heap[w.heap.size]? = some (.cells #[.int .u64 (v.a : Int), .int .u64 (v.b : Int), .int .u64 (v.c : Int), .int .u64 (v.d : Int)] 24) := by rw [hb2.block _ hvl]; exact Hbk.out
  have hvl2 : w.heap.size < w2.heap.size := (Array.getElem?_eq_some_iff.1 hbk2).1
  obtain ⟨c0, c1, c2, c3⟩ := wd_cells hbk2
  have HB2 := Lib.hid (HB1.out.trans (hb2.mono (by omega)))
  have Hbk2 := Lib.hid hbk2
  clear hb2 hbk2 HB1 Hbk hvl
  go_wp2_with fail
  refine (hle _).out.mono ?_
  rintro e w3 ⟨rfl, hb3⟩
  have hs3 := hb3.size
  simp only [World.size_alloc] at hs3
  have hB3' : Below w2.heap.size w2 w3 := ((Below.refl _ _).alloc (Nat.le_refl _) _).trans (hb3.mono (by simp only [World.size_alloc]; omega))
  have Hx3 : Hid (w3.heap[w2.heap.size]? = some (.cells (acCells x) 33 (0, 0))) := (hb3.block _ (by simp only [World.size_alloc]; omega)).trans (newest w2 _)
  have HB3 := Lib.hid (HB2.out.trans (hB3'.mono (by omega)))
  have Hv3 := Lib.hid ((hB3'.block _ hvl2).trans Hbk2.out)
  clear hb3 hB3' hle HB2 Hbk2 c0 c1 c2 c3
  go_wp2_with fail
  refine (hac' _ (HW.out.below HB3.out)).out.mono ?_
  rintro e w4 ⟨rfl, hb4⟩
  have hs4 := hb4.size
  have HB4 := Lib.hid ((HB3.out.trans (hb4.mono (by omega))).alloc (by omega) (.cells (acCells y) 33))
  obtain ⟨c0, c1, c2, c3⟩ := wd_cells (by rw [alloc_block (by omega), hb4.block _ (by omega)]; exact Hv3.out : (w4.alloc (.cells (acCells y) 33)).heap[w.heap.size]? = some (.cells #[.int .u64 (v.a : Int), .int .u64 (v.b : Int), .int .u64 (v.c : Int), .int .u64 (v.d : Int)] 24 (0, 0)))
  clear hb4 hac hac' HB3 Hx3 Hv3
  go_wp2_with fail
  go_ret
  exact ⟨rfl, HB4.out⟩
set_option maxHeartbeats 8000000 in
set_option maxRecDepth 100000 in
theorem move_goes (p : Nat) (S : St) (H : List St) (a b : ByteArray) (v : Wd) (w : World) (hw : WIs w p (.pointer none) S H) (ha : a.size = 20) (hb : b.size = 20) (hab : a ≠ b) (hv : v.Ok) (hA : (S.account a).bal.Ok) (hB : (S.account b).bal.Ok) (hl : (S.account a).bal.less v = false) (hz : v ≠ Wd.zero) (hH : H.length < 999999) :
    Calls Tryz.prog 13 #[.pointer (some ⟨p, 0, none⟩), .string a, .string b, wv v] w fun e w' => e = .returned (.int .i64 0) ∧ WIs w' p (.pointer none) (S.moved a b v) (H ++ [S] ++ [S.taken a v]) ∧ Moved p w w' := by
  have hr := fun W hc hc' => Lib.hid (right_two a b (w.heap.size + 1) W hc hc' (by omega) (by omega))
  rw [show (a.size == 20 && b.size == 20) = true from by simp [ha, hb]] at hr
  have hac := fun W hW => Lib.hid (account_any a p S H W hW ha)
  have hac' := fun W hW => Lib.hid (account_any b p S H W hW hb)
  obtain ⟨x, hx⟩ : ∃ x, x = S.account a := ⟨_, rfl⟩
  rw [← hx] at hac hA hl
  obtain ⟨y, hy⟩ : ∃ y, y = S.account b := ⟨_, rfl⟩
  rw [← hy] at hac' hB
  have HX := Lib.hid (And.intro hx hy)
  have hle := fun W => Lib.hid (less_any x.bal v hA hv W)
  rw [hl] at hle
  have HW := Lib.hid hw
  have hab' := bytes_ne hab
  have heq : ∀ W, (binOp .eql 24 (.agg #[.int .u64 (v.a : Int), .int .u64 (v.b : Int), .int .u64 (v.c : Int), .int .u64 (v.d : Int)]) (.agg #[.int .u64 0, .int .u64 0, .int .u64 0, .int .u64 0])).run Tryz.prog W = .ok (.bool false) W := fun W => (word_eql v Wd.zero W).trans (by rw [decide_eq_false hz])
  have HAB := Lib.hid hab
  have hpw := hw.lt
  clear hw ha hb hab hz hx hy hl
  go_enter Tryz.func13, Tryz.ntmps13
  go_wp2_with fail
  refine (hr _ (two_cells _ _ _ _ _).1 (two_cells _ _ _ _ _).2).out.mono ?_
  rintro e w1 ⟨rfl, rfl⟩
  have hB1 := below2 w (.cells #[.int .u64 (v.a : Int), .int .u64 (v.b : Int), .int .u64 (v.c : Int), .int .u64 (v.d : Int)] 24) (.cells #[.string a, .string b] 9)
  have hbk : ((w.alloc (.cells #[.int .u64 (v.a : Int), .int .u64 (v.b : Int), .int .u64 (v.c : Int), .int .u64 (v.d : Int)] 24)).alloc (.cells #[.string a, .string b] 9)).heap[w.heap.size]? = some (.cells #[.int .u64 (v.a : Int), .int .u64 (v.b : Int), .int .u64 (v.c : Int), .int .u64 (v.d : Int)] 24) := by
    rw [alloc_block (by simp)]; exact newest w _
  generalize hW1 : ((w.alloc (.cells #[.int .u64 (v.a : Int), .int .u64 (v.b : Int), .int .u64 (v.c : Int), .int .u64 (v.d : Int)] 24)).alloc (.cells #[.string a, .string b] 9)) = W1 at hB1 hbk ⊢
  have HB1 := Lib.hid hB1; have Hbk := Lib.hid hbk
  clear hW1 hB1 hbk hr
  go_wp2_with fail
  refine (hac _ (HW.out.below HB1.out)).out.mono ?_
  rintro e w2 ⟨rfl, hb2⟩
  have hvl : w.heap.size < W1.heap.size := (Array.getElem?_eq_some_iff.1 Hbk.out).1
  have hbk2 : w2.heap[w.heap.size]? = some (.cells #[.int .u64 (v.a : Int), .int .u64 (v.b : Int), .int .u64 (v.c : Int), .int .u64 (v.d : Int)] 24) := by rw [hb2.block _ hvl]; exact Hbk.out
  have hvl2 : w.heap.size < w2.heap.size := (Array.getElem?_eq_some_iff.1 hbk2).1
  obtain ⟨c0, c1, c2, c3⟩ := wd_cells hbk2
  have HB2 := Lib.hid (HB1.out.trans (hb2.mono (by omega)))
  have Hbk2 := Lib.hid hbk2
  clear hb2 hbk2 HB1 Hbk hvl
  go_wp2_with fail
  refine (hle _).out.mono ?_
  rintro e w3 ⟨rfl, hb3⟩
  have hs3 := hb3.size
  simp only [World.size_alloc] at hs3
  have hB3' : Below w2.heap.size w2 w3 := ((Below.refl _ _).alloc (Nat.le_refl _) _).trans (hb3.mono (by simp only [World.size_alloc]; omega))
  have Hx3 : Hid (w3.heap[w2.heap.size]? = some (.cells (acCells x) 33 (0, 0))) := (hb3.block _ (by simp only [World.size_alloc]; omega)).trans (newest w2 _)
  have HB3 := Lib.hid (HB2.out.trans (hB3'.mono (by omega)))
  have Hv3 := Lib.hid ((hB3'.block _ hvl2).trans Hbk2.out)
  clear hb3 hB3' hle HB2 Hbk2 c0 c1 c2 c3
  go_wp2_with fail
  refine (hac' _ (HW.out.below HB3.out)).out.mono ?_
  rintro e w4 ⟨rfl, hb4⟩
  have hs4 := hb4.size
  have hM : MvAt w (w4.alloc (.cells (acCells y) 33)) w.heap.size w2.heap.size w4.heap.size v x y := by
    refine ⟨?_, ?_, newest _ _, (HB3.out.trans (hb4.mono (by omega))).alloc (by omega) _⟩
    · rw [alloc_block (by omega), hb4.block _ (by omega)]; exact Hv3.out
    · rw [alloc_block (by omega), hb4.block _ (by omega)]; exact Hx3.out
  obtain ⟨c0, c1, c2, c3⟩ := wd_cells hM.v
  have HM := Lib.hid hM
  clear hb4 hM hac hac' HB3 Hx3 Hv3
  go_upto_region 11 with fail
  clear heq
  have n1 : w.heap.size ≠ w2.heap.size := by omega
  have n2 : w.heap.size ≠ w4.heap.size := by omega
  have n3 : w2.heap.size ≠ w4.heap.size := by omega
  have n4 : w4.heap.size ≠ w2.heap.size := by omega
  go_cut [] (fun wx => MvAt w wx w.heap.size w2.heap.size w4.heap.size v { x with bal := x.bal.sub v } { y with bal := y.bal.add v })
  case first =>
    have hs := fun W => Lib.hid (sub_any x.bal v hA hv W)
    have ha := fun W => Lib.hid (add_any y.bal v hB hv W)
    obtain ⟨z1, hz1⟩ : ∃ z, z = x.bal.sub v := ⟨_, rfl⟩
    obtain ⟨z2, hz2⟩ : ∃ z, z = y.bal.add v := ⟨_, rfl⟩
    rw [← hz1] at hs
    rw [← hz2] at ha
    have HZ := Lib.hid (And.intro hz1 hz2); clear hz1 hz2
    clear c0 c1 c2 c3
    have HM' : Hid (MvAt w (w4.alloc (.cells #[.int .u64 (y.nonce : Int), .int .u64 (y.bal.a : Int), .int .u64 (y.bal.b : Int), .int .u64 (y.bal.c : Int), .int .u64 (y.bal.d : Int), .string y.code] 33)) w.heap.size w2.heap.size w4.heap.size v x y) := HM
    clear HM
    generalize (w4.alloc (.cells #[.int .u64 (y.nonce : Int), .int .u64 (y.bal.a : Int), .int .u64 (y.bal.b : Int), .int .u64 (y.bal.c : Int), .int .u64 (y.bal.d : Int), .string y.code] 33)) = W at HM' ⊢
    obtain ⟨c0, c1, c2, c3⟩ := wd_cells HM'.out.v
    obtain ⟨⟨x1, x2, x3, x4⟩, _⟩ := ac_bal HM'.out.x
    obtain ⟨⟨y1, y2, y3, y4⟩, _⟩ := ac_bal HM'.out.y
    go_region_with (first
      | (go_at_call 17; (with_reducible refine (hs _).out.mono ?_); rintro e w6 ⟨rfl, hb6⟩
         have h6 := HM'.out.below (undrew hb6)
         obtain ⟨c0', c1', c2', c3'⟩ := wd_cells h6.v
         obtain ⟨⟨x1', x2', x3', x4'⟩, fx1, fx2, fx3, fx4⟩ := ac_bal h6.x
         obtain ⟨⟨y1', y2', y3', y4'⟩, fy1, fy2, fy3, fy4⟩ := ac_bal h6.y
         have H6 := Lib.hid h6; clear h6 hb6)
      | (go_at_call 16; (with_reducible refine (ha _).out.mono ?_); rintro e w7 ⟨rfl, hb7⟩
         have h7 := H6.out.below hb7
         obtain ⟨⟨x1'', x2'', x3'', x4''⟩, gx1, gx2, gx3, gx4⟩ := ac_bal h7.x
         obtain ⟨⟨y1'', y2'', y3'', y4''⟩, gy1, gy2, gy3, gy4⟩ := ac_bal h7.y
         have H7 := Lib.hid h7; clear h7 hb7))
    all_goals
      go_wp2_with fail
      go_meet
      rw [← HZ.out.1, ← HZ.out.2]
      exact mv_shut H7.out n1 n2 n3 (by omega) (by omega) z1 z2
  case rest =>
    obtain ⟨X1, hX1⟩ : ∃ X1 : Ac, X1 = { x with bal := x.bal.sub v } := ⟨_, rfl⟩
    obtain ⟨Y1, hY1⟩ : ∃ Y1 : Ac, Y1 = { y with bal := y.bal.add v } := ⟨_, rfl⟩
    rw [← hX1, ← hY1] at hcut
    have HXY := Lib.hid (And.intro hX1 hY1); clear hX1 hY1
    obtain ⟨nx, hnx⟩ : ∃ n, n = w2.heap.size := ⟨_, rfl⟩
    obtain ⟨ny, hny⟩ : ∃ n, n = w4.heap.size := ⟨_, rfl⟩
    rw [← hnx, ← hny] at hcut
    rw [← hnx, ← hny]
    have hnxl : w.heap.size < nx := by omega
    have hnyl : w.heap.size < ny := by omega
    have HC := Lib.hid hcut
    obtain ⟨ba, bs, bz, u, fs, hA⟩ := (HW.out.below hcut.b).at_
    have hpl := hA.lt
    have hxl : nx < wc.heap.size := (Array.getElem?_eq_some_iff.1 hcut.x).1
    have hyl : ny < wc.heap.size := (Array.getElem?_eq_some_iff.1 hcut.y).1
    have hfl : ∀ k, Foot wc p k → k < w.heap.size := fun k f => HW.out.foot_lt k (f.of_block (hcut.b.block p hpw))
    have hfx : ¬ Foot wc p nx := fun f => by have := hfl nx f; omega
    have hfy : ¬ Foot wc p ny := fun f => by have := hfl ny f; omega
    have hxa : nx ≠ ba := fun e => hfx ((hA.foot nx).2 (.inr (.inl e)))
    have hya : ny ≠ ba := fun e => hfy ((hA.foot ny).2 (.inr (.inl e)))
    have hMV := Lib.hid (Moved.of_below hcut.b hpw)
    have p0 : wc.cell? ⟨p, 0, none⟩ = some (.map (some ba)) := cell_of hA.blk 0
    obtain ⟨d0, d1, d2, d3, d4, d5⟩ := ac_all hcut.x
    obtain ⟨e0, e1, e2, e3, e4, e5⟩ := ac_all hcut.y
    have HA := Lib.hid hA; have HFX := Lib.hid hfx; have HFY := Lib.hid hfy; have HXA := Lib.hid hxa; have HYA := Lib.hid hya
    clear hA hcut hfx hfy hxa hya hfl hnx hny n1 n2 n3 n4 hab' c0 c1 c2 c3 HM
    have hset := fun W hm => Lib.hid (set_any ba a X1 S.acc W hm)
    go_wp2_with fail
    go_region_held3 (fun w' => w'.cell? ⟨p, 0, none⟩ = some (.map (some ba)) ∧ w'.cell? ⟨nx, 0, none⟩ = some (.int .u64 (X1.nonce : Int)) ∧ w'.cell? ⟨nx, 1, none⟩ = some (.int .u64 (X1.bal.a : Int)) ∧ w'.cell? ⟨nx, 2, none⟩ = some (.int .u64 (X1.bal.b : Int)) ∧
        w'.cell? ⟨nx, 3, none⟩ = some (.int .u64 (X1.bal.c : Int)) ∧ w'.cell? ⟨nx, 4, none⟩ = some (.int .u64 (X1.bal.d : Int)) ∧ w'.cell? ⟨nx, 5, none⟩ = some (.string X1.code))
      (first | go_keep | exact ⟨hk0, hk1 0 _ d0, hk1 1 _ d1, hk1 2 _ d2, hk1 3 _ d3, hk1 4 _ d4, hk1 5 _ d5⟩)
      (first
        | (go_at_call 47; (with_reducible refine (hset _ ?_).out.mono ?_); exact HA.out.maps.acc.of_block rfl; rintro e w3' ⟨rfl, hm3, hbx, ho3, hs3'⟩
           have h3 := after_set HA.out hm3 hbx ho3
           have hk0 : w3'.cell? ⟨p, 0, none⟩ = some (.map (some ba)) := cell_of h3.1.blk 0
           have hk1 : ∀ o v, wc.cell? ⟨nx, o, none⟩ = some v → w3'.cell? ⟨nx, o, none⟩ = some v := fun o v h => by rw [World.cell?_of_block (w := wc) (ho3.block nx hxl HXA.out)]; exact h
           have H3 := Lib.hid h3; clear h3 hm3 hbx ho3 hs3')
        | (go_at_call 46; refine (done_any p (.pointer none) _ S H ba bs bz u fs _ _ H3.out.1 (by omega) H3.out.2.2).mono ?_; rintro e w4' ⟨rfl, ⟨v', h4⟩, hmv4⟩
           have hk0 : w4'.cell? ⟨p, 0, none⟩ = some (.map (some ba)) := cell_of h4.blk 0
           have hk1 : ∀ o v, wc.cell? ⟨nx, o, none⟩ = some v → w4'.cell? ⟨nx, o, none⟩ = some v := fun o v h => by rw [World.cell?_of_block (w := w3') (hmv4.only.block nx (Nat.lt_of_lt_of_le hxl H3.out.2.1.only.size) (fun f => HFX.out (H3.out.2.1.foot nx hxl f)))]; exact hk1 o v h
           have H4 := Lib.hid h4; have HM4 := Lib.hid (H3.out.2.1.trans hmv4); clear h4 hmv4))
    have hyb : ∀ k, k < wc.heap.size → ¬ Foot wc p k → w4'.heap[k]? = wc.heap[k]? := fun k hk hf => HM4.out.only.block k hk hf
    obtain ⟨e0, e1, e2, e3, e4, e5⟩ := ac_all (by rw [hyb ny hyl HFY.out]; exact HC.out.y : w4'.heap[ny]? = some (.cells (acCells Y1) 33 (0, 0)))
    have p0 : w4'.cell? ⟨p, 0, none⟩ = some (.map (some ba)) := cell_of H4.out.blk 0
    have hyl4 : ny < w4'.heap.size := Nat.lt_of_lt_of_le hyl HM4.out.only.size
    have HFY4 : Hid (¬ Foot w4' p ny) := fun f => HFY.out (HM4.out.foot ny hyl f)
    clear hyb d0 d1 d2 d3 d4 d5 hset
    have hset := fun W hm => Lib.hid (set_any ba b Y1 (turn S.acc a (some X1)) W hm)
    go_wp2_with fail
    go_region_held3 (fun w' => w'.cell? ⟨p, 0, none⟩ = some (.map (some ba)) ∧ w'.cell? ⟨ny, 0, none⟩ = some (.int .u64 (Y1.nonce : Int)) ∧ w'.cell? ⟨ny, 1, none⟩ = some (.int .u64 (Y1.bal.a : Int)) ∧ w'.cell? ⟨ny, 2, none⟩ = some (.int .u64 (Y1.bal.b : Int)) ∧
        w'.cell? ⟨ny, 3, none⟩ = some (.int .u64 (Y1.bal.c : Int)) ∧ w'.cell? ⟨ny, 4, none⟩ = some (.int .u64 (Y1.bal.d : Int)) ∧ w'.cell? ⟨ny, 5, none⟩ = some (.string Y1.code))
      (first | go_keep | exact ⟨hk0, hk1 0 _ e0, hk1 1 _ e1, hk1 2 _ e2, hk1 3 _ e3, hk1 4 _ e4, hk1 5 _ e5⟩)
      (first
        | (go_at_call 47; (with_reducible refine (hset _ ?_).out.mono ?_); exact H4.out.maps.acc.of_block rfl; rintro e w5' ⟨rfl, hm3, hbx, ho3, hs3'⟩
           have h3 := after_set H4.out hm3 hbx ho3
           have hk0 : w5'.cell? ⟨p, 0, none⟩ = some (.map (some ba)) := cell_of h3.1.blk 0
           have hk1 : ∀ o v, w4'.cell? ⟨ny, o, none⟩ = some v → w5'.cell? ⟨ny, o, none⟩ = some v := fun o v h => by rw [World.cell?_of_block (w := w4') (ho3.block ny hyl4 HYA.out)]; exact h
           have H5 := Lib.hid h3; clear h3 hm3 hbx ho3 hs3')
        | (go_at_call 46; refine (done_any p (.pointer none) _ _ _ ba bs bz v' _ _ _ H5.out.1 (by simp; omega) H5.out.2.2).mono ?_; rintro e w6' ⟨rfl, ⟨v6, h4⟩, hmv4⟩
           have hk0 : w6'.cell? ⟨p, 0, none⟩ = some (.map (some ba)) := cell_of h4.blk 0
           have hk1 : ∀ o v, w4'.cell? ⟨ny, o, none⟩ = some v → w6'.cell? ⟨ny, o, none⟩ = some v := fun o v h => by rw [World.cell?_of_block (w := w5') (hmv4.only.block ny (Nat.lt_of_lt_of_le hyl4 H5.out.2.1.only.size) (fun f => HFY4.out (H5.out.2.1.foot ny hyl4 f)))]; exact hk1 o v h
           have H6 := Lib.hid h4; have HM6 := Lib.hid (H5.out.2.1.trans hmv4); clear h4 hmv4))
    go_wp2_with fail
    go_ret
    obtain ⟨rfl, rfl⟩ := HXY.out
    obtain ⟨rfl, rfl⟩ := HX.out
    exact ⟨rfl, H6.out.mid, hMV.out.trans (HM4.out.trans HM6.out)⟩
end Go.Proofs.YtbjkdnbmgoibiaaGreatDoor
