/-
  The examples of chapter 10; WorldMoves.
-/
import Derived.Test.YtbjkdnbmgoibiaaGreatDoorWm
namespace Go.Proofs.YtbjkdnbmgoibiaaGreatDoor
open Go.RowKit Go.MapKept
attribute [local go_sem ↓] Go.wp_at_zero Go.wp_at_succ
/-- An object of the call's own, and what was there stands. -/
structure Own (B p : Nat) (w0 w : World) : Prop where
  b : Below B w0 w
  f : ∀ k, Foot w p k → B ≤ k
  s : B ≤ w.heap.size
theorem Own.moved {B p : Nat} {w0 w w' : World} (h : Own B p w0 w) (hm : Moved p w w') : Own B p w0 w' := by
  obtain ⟨h1, h2⟩ := hm.below h.f h.s
  exact ⟨h.b.trans h1, h2, Nat.le_trans h.s hm.only.size⟩
theorem account_new (p m : Nat) (n : Int) (hn : (m : Int) = n) (S : St) (H : List St) (a : ByteArray) (w : World) (hw : WIs w p (.pointer none) S H) (ha : a.size = 20) (hS : S.account a = ⟨m, Wd.zero, ByteArray.empty⟩) :
    Calls Tryz.prog 14 #[.pointer (some ⟨p, 0, none⟩), .string a] w fun e w' => e = .returned (.tuple #[.agg #[.int .u64 n, .int .u64 0, .int .u64 0, .int .u64 0, .int .u64 0, .string ⟨#[]⟩], .int .i64 0]) ∧ Below w.heap.size w w' := by
  have h := account_any a p S H w hw ha
  rw [hS] at h
  subst hn
  exact h
theorem account_bal (p : Nat) (X : Wd) (S : St) (H : List St) (a : ByteArray) (w : World) (hw : WIs w p (.pointer none) S H) (ha : a.size = 20) (hS : S.account a = ⟨0, X, ByteArray.empty⟩) :
    Calls Tryz.prog 14 #[.pointer (some ⟨p, 0, none⟩), .string a] w fun e w' => e = .returned (.tuple #[.agg #[.int .u64 0, .int .u64 (X.a : Int), .int .u64 (X.b : Int), .int .u64 (X.c : Int), .int .u64 (X.d : Int), .string ⟨#[]⟩], .int .i64 0]) ∧ Below w.heap.size w w' := by
  have h := account_any a p S H w hw ha
  rw [hS] at h
  exact h
theorem five_zero (W : World) : (binOp .eql 33 (.agg #[.int .u64 0, .int .u64 0, .int .u64 0, .int .u64 0, .int .u64 0, .string ⟨#[]⟩]) (.agg #[.int .u64 0, .int .u64 0, .int .u64 0, .int .u64 0, .int .u64 0, .string ⟨#[]⟩])).run Tryz.prog W = .ok (.bool true) W := acc_same Ac.zero W
theorem account_turn (S : St) (a : ByteArray) (x : Ac) : St.account { S with acc := turn S.acc a (some x) } a = x := by
  show ((turn S.acc a (some x)) a).getD Ac.zero = x
  rw [turn_same]; rfl
theorem account_other (S : St) {a b : ByteArray} (x : Ac) (h : b ≠ a) : St.account { S with acc := turn S.acc a (some x) } b = S.account b := by
  show ((turn S.acc a (some x)) b).getD Ac.zero = _
  rw [turn_other h]; rfl
/-- A block beside an object stands. -/
structure Side (w : World) (p q : Nat) (o : Obj) : Prop where
  at_ : w.heap[q]? = some o
  no : ¬ Foot w p q
theorem Side.lt {w : World} {p q : Nat} {o : Obj} (h : Side w p q o) : q < w.heap.size := (Array.getElem?_eq_some_iff.1 h.at_).1
theorem Side.moved {w w' : World} {p q : Nat} {o : Obj} (h : Side w p q o) (hm : Moved p w w') : Side w' p q o :=
  ⟨(hm.only.block q h.lt h.no).trans h.at_, fun f => h.no (hm.foot q h.lt f)⟩
theorem Side.newest {w0 w : World} {p : Nat} {c : Value} {T S : St} {H : List St} (h : WMid w0 p c T H S) (hm : Moved p w0 w) (hs : w.heap[p]? = w0.heap[p]?) (o : Obj) : Side (w.alloc o) p w.heap.size o := by
  have hp : p < w.heap.size := Nat.lt_of_lt_of_le h.lt hm.only.size
  refine ⟨(Go.MapKept.heap_alloc w o).1, fun f => ?_⟩
  have f2 : Foot w0 p w.heap.size := f.of_block ((alloc_block hp o).trans hs)
  have := h.foot_lt _ f2
  have := hm.only.size
  omega
set_option maxHeartbeats 8000000 in
set_option maxRecDepth 100000 in
theorem examples_any (w : World) : Calls Tryz.prog 9 #[] w fun e w' => e = .returned (.bool true) ∧ Below w.heap.size w w' := by
  have ha0 : (adr 0).size = 20 := adr_size 0
  obtain ⟨a, hae⟩ : ∃ a, a = adr 0 := ⟨_, rfl⟩
  have had := fun W => Lib.hid (address_any 0 W (by omega))
  rw [← hae] at had ha0
  have Ha := Lib.hid ha0
  clear hae ha0
  go_enter Tryz.func9, Tryz.ntmps9
  go_wp2_with fail
  refine (new_any w).mono ?_
  rintro e w1 ⟨rfl, hw1, hb1, hf1⟩
  obtain ⟨p, hp⟩ : ∃ p, p = w.heap.size + 4 := ⟨_, rfl⟩
  rw [← hp] at hw1 hf1 ⊢
  have HO1 := Lib.hid (Own.mk hb1 hf1 hb1.size); have HW1 := Lib.hid hw1
  clear hb1 hf1 hw1 hp
  go_wp2_with fail
  refine (had _).out.mono ?_
  rintro e w2 ⟨rfl, hb2⟩
  have hw2 := HW1.out.below hb2
  have HO2 := Lib.hid (HO1.out.moved (Moved.of_below hb2 HW1.out.lt)); have HW2 := Lib.hid hw2
  clear hb2 hw2 HO1 HW1
  go_wp2_with fail
  refine (setNonce_any p 5 St.empty [] a w2 HW2.out Ha.out (by simp)).mono ?_
  rintro e w3 ⟨rfl, hw3, hm3⟩
  obtain ⟨S1, hS1⟩ : ∃ S1 : St, S1 = { St.empty with acc := turn St.empty.acc a (some { St.empty.account a with nonce := 5 }) } := ⟨_, rfl⟩
  rw [← hS1] at hw3
  have HS1 := Lib.hid hS1
  have HO3 := Lib.hid (HO2.out.moved hm3); have HW3 := Lib.hid hw3
  clear hm3 hw3 HO2 HW2 hS1
  go_wp2_with fail
  refine (had _).out.mono ?_
  rintro e w4 ⟨rfl, hb4⟩
  have hw4 := HW3.out.below hb4
  have HO4 := Lib.hid (HO3.out.moved (Moved.of_below hb4 HW3.out.lt)); have HW4 := Lib.hid hw4
  clear hb4 hw4 HO3 HW3
  go_wp2_with fail
  refine (account_new p 5 5 rfl S1 _ a w4 HW4.out Ha.out (by rw [HS1.out, account_turn]; rfl)).mono ?_
  rintro e w5 ⟨rfl, hb5⟩
  have hm5 := Moved.of_below hb5 HW4.out.lt
  have hsd := Side.newest HW4.out hm5 (hb5.block _ HW4.out.lt) (.cells #[.int .u64 5, .int .u64 0, .int .u64 0, .int .u64 0, .int .u64 0, .string ⟨#[]⟩] 33)
  have hb6 : Below w4.heap.size w4 (w5.alloc (.cells #[.int .u64 5, .int .u64 0, .int .u64 0, .int .u64 0, .int .u64 0, .string ⟨#[]⟩] 33)) := hb5.alloc hb5.size _
  obtain ⟨q, hq⟩ : ∃ q, q = w5.heap.size := ⟨_, rfl⟩
  rw [← hq] at hsd
  have HSD := Lib.hid hsd; have HW6 := Lib.hid (HW4.out.below hb6); have HO6 := Lib.hid (HO4.out.moved (Moved.of_below hb6 HW4.out.lt))
  clear hsd hb6 hb5 hm5 HW4 HO4
  go_wp2_with fail
  rw [← hq]
  clear hq
  generalize (w5.alloc (.cells #[.int .u64 5, .int .u64 0, .int .u64 0, .int .u64 0, .int .u64 0, .string ⟨#[]⟩] 33)) = w6 at HSD HW6 HO6 ⊢
  refine (back_any p 0 (.pointer none) S1 St.empty _ w6 HW6.out (by simp) (by simp) (by simp)).mono ?_
  rintro e w7 ⟨rfl, hw7, hm7⟩
  have HSD7 := Lib.hid (HSD.out.moved hm7); have HW7 := Lib.hid hw7; have HO7 := Lib.hid (HO6.out.moved hm7)
  clear hw7 hm7 HSD HW6 HO6
  go_wp2_with fail
  refine (had _).out.mono ?_
  rintro e w8 ⟨rfl, hb8⟩
  have hm8 := Moved.of_below hb8 HW7.out.lt
  have HSD8 := Lib.hid (HSD7.out.moved hm8); have HW8 := Lib.hid (HW7.out.below hb8); have HO8 := Lib.hid (HO7.out.moved hm8)
  clear hb8 hm8 HSD7 HW7 HO7
  go_wp2_with fail
  refine (account_new p 0 0 rfl St.empty _ a w8 HW8.out Ha.out rfl).mono ?_
  rintro e w9 ⟨rfl, hb9⟩
  have hb10 : Below w8.heap.size w8 (w9.alloc (.cells #[.int .u64 0, .int .u64 0, .int .u64 0, .int .u64 0, .int .u64 0, .string ⟨#[]⟩] 33)) := hb9.alloc hb9.size _
  have hm10 := Moved.of_below hb10 HW8.out.lt
  have HSD10 := Lib.hid (HSD8.out.moved hm10); have HW10 := Lib.hid (HW8.out.below hb10); have HO10 := Lib.hid (HO8.out.moved hm10)
  have hz := newest w9 (.cells #[.int .u64 0, .int .u64 0, .int .u64 0, .int .u64 0, .int .u64 0, .string ⟨#[]⟩] 33)
  obtain ⟨r, hr⟩ : ∃ r, r = w9.heap.size := ⟨_, rfl⟩
  rw [← hr] at hz
  clear hb9 hb10 hm10 HSD8 HW8 HO8
  have heq := five_zero
  go_upto_region 8 with fail
  rw [← hr]
  clear hr
  generalize (w9.alloc (.cells #[.int .u64 0, .int .u64 0, .int .u64 0, .int .u64 0, .int .u64 0, .string ⟨#[]⟩] 33)) = w10 at HSD10 HW10 HO10 hz ⊢
  have d0 : w10.cell? ⟨q, 0, none⟩ = some (.int .u64 5) := cell_of HSD10.out.at_ 0
  have z0 : w10.cell? ⟨r, 0, none⟩ = some (.int .u64 0) := cell_of hz 0
  have z1 : w10.cell? ⟨r, 1, none⟩ = some (.int .u64 0) := cell_of hz 1
  have z2 : w10.cell? ⟨r, 2, none⟩ = some (.int .u64 0) := cell_of hz 2
  have z3 : w10.cell? ⟨r, 3, none⟩ = some (.int .u64 0) := cell_of hz 3
  have z4 : w10.cell? ⟨r, 4, none⟩ = some (.int .u64 0) := cell_of hz 4
  have z5 : w10.cell? ⟨r, 5, none⟩ = some (.string ⟨#[]⟩) := cell_of hz 5
  have hmk := Lib.hid (mark_any p (.pointer none) St.empty [] w10 HW10.out)
  clear hz
  go_wp2_with fail
  refine hmk.out.mono ?_
  rintro e w11 ⟨rfl, rfl⟩
  go_wp2_with fail
  refine (setNonce_bad 1 _ ⟨#[120]⟩ w10 (by decide) (by decide)).mono ?_
  rintro e w12 ⟨rfl, hb12⟩
  have HB12 := Lib.hid hb12; clear hb12
  go_wp2_with fail
  go_ret
  exact ⟨rfl, HO10.out.b.trans (HB12.out.mono HO10.out.s)⟩
theorem Wd.add_zero {x : Wd} (h : x.Ok) : x.add Wd.zero = x := by
  refine (Wd.add_ok _ _).inj h ?_
  rw [Wd.add_num, show Wd.zero.num = 0 from rfl, Nat.add_zero, Nat.mod_eq_of_lt h.lt]
theorem Wd.sub_zero {x : Wd} (h : x.Ok) : x.sub Wd.zero = x := by
  refine (Wd.sub_ok _ _).inj h ?_
  rw [(Wd.sub_both h Wd.zero_ok).1, show Wd.zero.num = 0 from rfl, Nat.sub_zero, show x.num + q256 = x.num + 1 * q256 from by omega, Nat.add_mul_mod_self_right, Nat.mod_eq_of_lt h.lt]
theorem Wd.less_self {x : Wd} (h : x.Ok) : x.less x = false := by
  rw [Wd.less_iff h h]; simp
/-- What a move leaves that is done: the first one's, and the other one's, with what came of them. -/
def Moves (p : Nat) (a b : ByteArray) (x y v : Wd) (w : World) (e : Ending) (w' : World) : Prop :=
  e = .returned (.int .i64 0) ∧ ∃ S H X Y, WIs w' p (.pointer none) S H ∧ Moved p w w' ∧ S.account a = ⟨0, X, ByteArray.empty⟩ ∧ S.account b = ⟨0, Y, ByteArray.empty⟩ ∧ X.add v = x ∧ Y.sub v = y ∧ X.Ok ∧ Y.Ok
theorem move_ok (p : Nat) (S : St) (H : List St) (a b : ByteArray) (x y v : Wd) (w : World) (hw : WIs w p (.pointer none) S H) (ha : a.size = 20) (hb : b.size = 20) (hab : a ≠ b) (hv : v.Ok) (hx : x.Ok) (hy : y.Ok)
    (hA : S.account a = ⟨0, x, ByteArray.empty⟩) (hB : S.account b = ⟨0, y, ByteArray.empty⟩) (hl : x.less v = false) (hH : H.length < 999999) :
    Calls Tryz.prog 13 #[.pointer (some ⟨p, 0, none⟩), .string a, .string b, wv v] w (Moves p a b x y v w) := by
  by_cases hz : v = Wd.zero
  · refine (move_zero p S H a b v w hw ha hb hab hv (by rw [hA]; exact hx) (by rw [hA]; exact hl) hz).mono ?_
    rintro e w' ⟨rfl, hb'⟩
    subst hz
    exact ⟨rfl, S, H, x, y, hw.below hb', Moved.of_below hb' hw.lt, hA, hB, Wd.add_zero hx, Wd.sub_zero hy, hx, hy⟩
  · refine (move_goes p S H a b v w hw ha hb hab hv (by rw [hA]; exact hx) (by rw [hB]; exact hy) (by rw [hA]; exact hl) hz hH).mono ?_
    rintro e w' ⟨rfl, h1, h2⟩
    refine ⟨rfl, _, _, x.sub v, y.add v, h1, h2, ?_, ?_, Wd.sub_add hx hv, Wd.add_sub hy hv, Wd.sub_ok _ _, Wd.add_ok _ _⟩
    · unfold St.moved
      rw [account_other _ _ hab]
      unfold St.taken
      rw [account_turn, hA]
    · unfold St.moved
      rw [account_turn, hB]
/-- Three words in boxes. -/
structure Box3 (n : Nat) (W : World) (x y v : Wd) : Prop where
  a : W.heap[n]? = some (.cells #[.int .u64 (x.a : Int), .int .u64 (x.b : Int), .int .u64 (x.c : Int), .int .u64 (x.d : Int)] 24 (0, 0))
  b : W.heap[n + 1]? = some (.cells #[.int .u64 (y.a : Int), .int .u64 (y.b : Int), .int .u64 (y.c : Int), .int .u64 (y.d : Int)] 24 (0, 0))
  v : W.heap[n + 2]? = some (.cells #[.int .u64 (v.a : Int), .int .u64 (v.b : Int), .int .u64 (v.c : Int), .int .u64 (v.d : Int)] 24 (0, 0))
theorem Box3.below {n : Nat} {W W' : World} {x y v : Wd} (h : Box3 n W x y v) (hb : Below (n + 3) W W') : Box3 n W' x y v :=
  ⟨by rw [hb.block n (by omega)]; exact h.a, by rw [hb.block (n + 1) (by omega)]; exact h.b, by rw [hb.block (n + 2) (by omega)]; exact h.v⟩
set_option maxHeartbeats 16000000 in
set_option maxRecDepth 100000 in
theorem worldMoves_any (x y v : Wd) (hx : x.Ok) (hy : y.Ok) (hv : v.Ok) (w : World) : Calls Tryz.prog 3 #[wv x, wv y, wv v] w fun e w' => e = .returned (.bool true) ∧ Below w.heap.size w w' := by
  have ha0 : (adr 0).size = 20 := adr_size 0
  have hb0 : (adr 1).size = 20 := adr_size 1
  have hab : adr 0 ≠ adr 1 := adr_ne (by decide)
  have had0 : ∀ W, Hid (Calls Tryz.prog 12 #[.int .u8 0] W fun e w' => e = .returned (.string (adr 0)) ∧ Below W.heap.size W w') := fun W => address_any 0 W (by omega)
  have had1 : ∀ W, Hid (Calls Tryz.prog 12 #[.int .u8 1] W fun e w' => e = .returned (.string (adr 1)) ∧ Below W.heap.size W w') := fun W => address_any 1 W (by omega)
  generalize adr 0 = a at *
  generalize adr 1 = b at *
  have Hab := Lib.hid (And.intro ha0 (And.intro hb0 hab))
  clear ha0 hb0 hab
  go_enter Tryz.func3, Tryz.ntmps3
  go_wp2_with fail
  have hB0 : Below w.heap.size w (((w.alloc (.cells #[.int .u64 (x.a : Int), .int .u64 (x.b : Int), .int .u64 (x.c : Int), .int .u64 (x.d : Int)] 24)).alloc (.cells #[.int .u64 (y.a : Int), .int .u64 (y.b : Int), .int .u64 (y.c : Int), .int .u64 (y.d : Int)] 24)).alloc (.cells #[.int .u64 (v.a : Int), .int .u64 (v.b : Int), .int .u64 (v.c : Int), .int .u64 (v.d : Int)] 24)) := ((((Below.refl _ _).alloc (Nat.le_refl _) _).alloc (by simp) _).alloc (by simp only [World.size_alloc]; omega) _)
  have hX0 : Box3 w.heap.size (((w.alloc (.cells #[.int .u64 (x.a : Int), .int .u64 (x.b : Int), .int .u64 (x.c : Int), .int .u64 (x.d : Int)] 24)).alloc (.cells #[.int .u64 (y.a : Int), .int .u64 (y.b : Int), .int .u64 (y.c : Int), .int .u64 (y.d : Int)] 24)).alloc (.cells #[.int .u64 (v.a : Int), .int .u64 (v.b : Int), .int .u64 (v.c : Int), .int .u64 (v.d : Int)] 24)) x y v :=
    ⟨by (rw [at_al, if_neg (by simp only [World.size_alloc]; omega), at_al, if_neg (by simp only [World.size_alloc]; omega), at_al, if_pos rfl]), by (rw [at_al, if_neg (by simp only [World.size_alloc]; omega), at_al, if_pos (by simp only [World.size_alloc])]), by (rw [at_al, if_pos (by simp only [World.size_alloc])])⟩
  have hz0 : (((w.alloc (.cells #[.int .u64 (x.a : Int), .int .u64 (x.b : Int), .int .u64 (x.c : Int), .int .u64 (x.d : Int)] 24)).alloc (.cells #[.int .u64 (y.a : Int), .int .u64 (y.b : Int), .int .u64 (y.c : Int), .int .u64 (y.d : Int)] 24)).alloc (.cells #[.int .u64 (v.a : Int), .int .u64 (v.b : Int), .int .u64 (v.c : Int), .int .u64 (v.d : Int)] 24)).heap.size = w.heap.size + 3 := by simp only [World.size_alloc]
  generalize (((w.alloc (.cells #[.int .u64 (x.a : Int), .int .u64 (x.b : Int), .int .u64 (x.c : Int), .int .u64 (x.d : Int)] 24)).alloc (.cells #[.int .u64 (y.a : Int), .int .u64 (y.b : Int), .int .u64 (y.c : Int), .int .u64 (y.d : Int)] 24)).alloc (.cells #[.int .u64 (v.a : Int), .int .u64 (v.b : Int), .int .u64 (v.c : Int), .int .u64 (v.d : Int)] 24)) = W0 at *
  obtain ⟨n, hn⟩ : ∃ n, n = w.heap.size := ⟨_, rfl⟩
  have HN := Lib.hid (And.intro hn hz0)
  rw [← hn] at hX0 hz0 ⊢
  have HB0 := Lib.hid hB0; have HX0 := Lib.hid hX0
  clear hB0 hX0 hn hz0
  refine (examples_any W0).mono ?_
  rintro e w1 ⟨rfl, hb1⟩
  have HB1 := Lib.hid hb1; clear hb1
  go_wp2_with fail
  refine (new_any w1).mono ?_
  rintro e w2 ⟨rfl, hw2, hb2, hf2⟩
  obtain ⟨p, hp⟩ : ∃ p, p = w1.heap.size + 4 := ⟨_, rfl⟩
  rw [← hp] at hw2 hf2 ⊢
  have hO2 : Own (n + 3) p W0 w2 := by
    have e1 := HN.out
    have e2 := HB1.out.size
    have e3 := hb2.size
    exact ⟨(HB1.out.mono (by omega)).trans (hb2.mono (by omega)), fun k f => by have := hf2 k f; omega, by omega⟩
  have HO2 := Lib.hid hO2; have HW2 := Lib.hid hw2
  clear hO2 hw2 hb2 hf2 hp HB1
  go_wp2_with fail
  obtain ⟨S1, hS1⟩ : ∃ S1 : St, S1 = { St.empty with acc := turn St.empty.acc a (some { St.empty.account a with bal := x }) } := ⟨_, rfl⟩
  obtain ⟨S2, hS2⟩ : ∃ S2 : St, S2 = { S1 with acc := turn S1.acc b (some { S1.account b with bal := y }) } := ⟨_, rfl⟩
  have hA1 : S1.account a = ⟨0, x, ByteArray.empty⟩ := by rw [hS1, account_turn]; rfl
  have hB1 : S1.account b = ⟨0, Wd.zero, ByteArray.empty⟩ := by rw [hS1, account_other _ _ (Ne.symm Hab.out.2.2)]; rfl
  have hA2 : S2.account a = ⟨0, x, ByteArray.empty⟩ := by rw [hS2, account_other _ _ Hab.out.2.2]; exact hA1
  have hB2 : S2.account b = ⟨0, y, ByteArray.empty⟩ := by rw [hS2, account_turn, hB1]
  have HS := Lib.hid (And.intro hA2 hB2)
  have hsb1 : ∀ W, WIs W p (.pointer none) St.empty [] → Hid (Calls Tryz.prog 11 #[.pointer (some ⟨p, 0, none⟩), .string a, wv x] W fun e w' => e = .returned (.int .i64 0) ∧ WIs w' p (.pointer none) S1 ([] ++ [St.empty]) ∧ Moved p W w') := fun W h => by rw [hS1]; exact setBalance_any p x St.empty [] a W h Hab.out.1 (by simp)
  have hsb2 : ∀ W, WIs W p (.pointer none) S1 ([] ++ [St.empty]) → Hid (Calls Tryz.prog 11 #[.pointer (some ⟨p, 0, none⟩), .string b, wv y] W fun e w' => e = .returned (.int .i64 0) ∧ WIs w' p (.pointer none) S2 ([] ++ [St.empty] ++ [S1]) ∧ Moved p W w') := fun W h => by rw [hS2]; exact setBalance_any p y S1 _ b W h Hab.out.2.1 (by simp)
  clear hS1 hS2 hA1 hB1 hA2 hB2
  have hbx := HX0.out.below HO2.out.b
  obtain ⟨c0, c1, c2, c3⟩ := wd_cells hbx.a
  obtain ⟨d0, d1, d2, d3⟩ := wd_cells hbx.b
  clear hbx
  go_region_held3 (fun w' => w'.cell? ⟨n, 0, none⟩ = some (.int .u64 (x.a : Int)) ∧ w'.cell? ⟨n, 1, none⟩ = some (.int .u64 (x.b : Int)) ∧ w'.cell? ⟨n, 2, none⟩ = some (.int .u64 (x.c : Int)) ∧ w'.cell? ⟨n, 3, none⟩ = some (.int .u64 (x.d : Int)) ∧
      w'.cell? ⟨n + 1, 0, none⟩ = some (.int .u64 (y.a : Int)) ∧ w'.cell? ⟨n + 1, 1, none⟩ = some (.int .u64 (y.b : Int)) ∧ w'.cell? ⟨n + 1, 2, none⟩ = some (.int .u64 (y.c : Int)) ∧ w'.cell? ⟨n + 1, 3, none⟩ = some (.int .u64 (y.d : Int)))
    (first | go_keep | exact ⟨cell_of hbx.out.a 0, cell_of hbx.out.a 1, cell_of hbx.out.a 2, cell_of hbx.out.a 3, cell_of hbx.out.b 0, cell_of hbx.out.b 1, cell_of hbx.out.b 2, cell_of hbx.out.b 3⟩)
    (first
      | (go_at_call 12; (with_reducible refine (had0 _).out.mono ?_); rintro e w3 ⟨rfl, hb3⟩
         have HO3 := Lib.hid (HO2.out.moved (Moved.of_below (undrew hb3) HW2.out.lt)); have HW3 := Lib.hid (HW2.out.below (undrew hb3)); have hbx := Lib.hid (HX0.out.below HO3.out.b); clear hb3)
      | (go_at_call 11; (with_reducible refine (hsb1 _ ?_).out.mono ?_); exact HW3.out; rintro e w4 ⟨rfl, hw4, hm4⟩
         have HO4 := Lib.hid (HO3.out.moved hm4); have HW4 := Lib.hid hw4; have hbx := Lib.hid (HX0.out.below HO4.out.b); clear hm4 hw4)
      | (go_at_call 12; (with_reducible refine (had1 _).out.mono ?_); rintro e w5 ⟨rfl, hb5⟩
         have HO5 := Lib.hid (HO4.out.moved (Moved.of_below hb5 HW4.out.lt)); have HW5 := Lib.hid (HW4.out.below hb5); have hbx := Lib.hid (HX0.out.below HO5.out.b); clear hb5)
      | (go_at_call 11; (with_reducible refine (hsb2 _ ?_).out.mono ?_); exact HW5.out; rintro e w6 ⟨rfl, hw6, hm6⟩
         have HO6 := Lib.hid (HO5.out.moved hm6); have HW6 := Lib.hid hw6; have hbx := Lib.hid (HX0.out.below HO6.out.b); clear hm6 hw6))
  clear hsb1 hsb2 c0 c1 c2 c3 d0 d1 d2 d3
  clear HO2 HW2 HO3 HW3 HO4 HW4 HO5 HW5
  have hbx := HX0.out.below HO6.out.b
  obtain ⟨c0, c1, c2, c3⟩ := wd_cells hbx.v
  clear hbx
  have heqx : ∀ W, (binOp .eql 24 (.agg #[.int .u64 (x.a : Int), .int .u64 (x.b : Int), .int .u64 (x.c : Int), .int .u64 (x.d : Int)]) (.agg #[.int .u64 (x.a : Int), .int .u64 (x.b : Int), .int .u64 (x.c : Int), .int .u64 (x.d : Int)])).run Tryz.prog W = .ok (.bool true) W := fun W => (word_eql x x W).trans (by rw [decide_eq_true rfl])
  have heqy : ∀ W, (binOp .eql 24 (.agg #[.int .u64 (y.a : Int), .int .u64 (y.b : Int), .int .u64 (y.c : Int), .int .u64 (y.d : Int)]) (.agg #[.int .u64 (y.a : Int), .int .u64 (y.b : Int), .int .u64 (y.c : Int), .int .u64 (y.d : Int)])).run Tryz.prog W = .ok (.bool true) W := fun W => (word_eql y y W).trans (by rw [decide_eq_true rfl])
  by_cases hl : x.less v = true
  · have hmv : ∀ W, WIs W p (.pointer none) S2 ([] ++ [St.empty] ++ [S1]) → Hid (Calls Tryz.prog 13 #[.pointer (some ⟨p, 0, none⟩), .string a, .string b, wv v] W fun e w' => e = .returned (.int .i64 8) ∧ Below W.heap.size W w') := fun W h => move_funds p S2 _ a b v W h Hab.out.1 Hab.out.2.1 hv (by rw [HS.out.1]; exact hx) (by rw [HS.out.1]; exact hl)
    have hle := fun W => Lib.hid (less_any x v hx hv W)
    rw [hl] at hle
    clear hl
    go_wp2_with fail
    go_region_held3 (fun w' => w'.cell? ⟨n + 1 + 1, 0, none⟩ = some (.int .u64 (v.a : Int)) ∧ w'.cell? ⟨n + 1 + 1, 1, none⟩ = some (.int .u64 (v.b : Int)) ∧ w'.cell? ⟨n + 1 + 1, 2, none⟩ = some (.int .u64 (v.c : Int)) ∧ w'.cell? ⟨n + 1 + 1, 3, none⟩ = some (.int .u64 (v.d : Int)))
      (first | go_keep | exact ⟨cell_of hbx.out.v 0, cell_of hbx.out.v 1, cell_of hbx.out.v 2, cell_of hbx.out.v 3⟩)
      (first
        | (go_at_call 12; (with_reducible refine (had0 _).out.mono ?_); rintro e w7 ⟨rfl, hb7⟩
           have HO7 := Lib.hid (HO6.out.moved (Moved.of_below (undrew hb7) HW6.out.lt)); have HW7 := Lib.hid (HW6.out.below (undrew hb7)); have hbx := Lib.hid (HX0.out.below HO7.out.b); clear hb7)
        | (go_at_call 12; (with_reducible refine (had1 _).out.mono ?_); rintro e w8 ⟨rfl, hb8⟩
           have HO8 := Lib.hid (HO7.out.moved (Moved.of_below hb8 HW7.out.lt)); have HW8 := Lib.hid (HW7.out.below hb8); have hbx := Lib.hid (HX0.out.below HO8.out.b); clear hb8)
        | (go_at_call 13; (with_reducible refine (hmv _ ?_).out.mono ?_); exact HW8.out; rintro e w9 ⟨rfl, hb9⟩
           have HO9 := Lib.hid (HO8.out.moved (Moved.of_below hb9 HW8.out.lt)); have HW9 := Lib.hid (HW8.out.below hb9); have hbx := Lib.hid (HX0.out.below HO9.out.b); clear hb9))
    clear hmv c0 c1 c2 c3 HO6 HW6 HO7 HW7 HO8 HW8
    have HXY := Lib.hid (And.intro HS.out.1 (And.intro HS.out.2 trivial))
    go_wp2_with fail
    refine (had0 _).out.mono ?_
    rintro e w10 ⟨rfl, hb10⟩
    have hm := Moved.of_below hb10 HW9.out.lt
    have HO10 := Lib.hid (HO9.out.moved hm); have HW10 := Lib.hid (HW9.out.below hb10)
    clear hb10 hm HO9 HW9
    go_wp2_with fail
    refine (account_bal p x S2 _ a w10 HW10.out Hab.out.1 HXY.out.1).mono ?_
    rintro e w11 ⟨rfl, hb11⟩
    have hm := Moved.of_below hb11 HW10.out.lt
    have hb3 : Below w10.heap.size w10 (w11.alloc (.cells #[.int .u64 0, .int .u64 (x.a : Int), .int .u64 (x.b : Int), .int .u64 (x.c : Int), .int .u64 (x.d : Int), .string ⟨#[]⟩] 33)) := hb11.alloc hb11.size _
    have hm3 := Moved.of_below hb3 HW10.out.lt
    have Hq1_12 := Lib.hid (Side.newest HW10.out hm (hb11.block _ HW10.out.lt) (.cells #[.int .u64 0, .int .u64 (x.a : Int), .int .u64 (x.b : Int), .int .u64 (x.c : Int), .int .u64 (x.d : Int), .string ⟨#[]⟩] 33))
    have HO12 := Lib.hid (HO10.out.moved hm3); have HW12 := Lib.hid (HW10.out.below hb3)
    obtain ⟨q1, hq1⟩ : ∃ q, q = w11.heap.size := ⟨_, rfl⟩
    rw [← hq1] at Hq1_12
    clear hb11 hm hb3 hm3 HO10 HW10
    go_upto_region 9 with fail
    rw [← hq1]
    clear hq1
    generalize (w11.alloc (.cells #[.int .u64 0, .int .u64 (x.a : Int), .int .u64 (x.b : Int), .int .u64 (x.c : Int), .int .u64 (x.d : Int), .string ⟨#[]⟩] 33)) = w12 at Hq1_12 HO12 HW12  ⊢
    go_wp2_with fail
    refine (had1 _).out.mono ?_
    rintro e w13 ⟨rfl, hb13⟩
    have hm := Moved.of_below hb13 HW12.out.lt
    have HO13 := Lib.hid (HO12.out.moved hm); have HW13 := Lib.hid (HW12.out.below hb13)
    have Hq1_13 := Lib.hid (Hq1_12.out.moved hm)
    clear hb13 hm HO12 HW12
    go_wp2_with fail
    refine (account_bal p y S2 _ b w13 HW13.out Hab.out.2.1 HXY.out.2.1).mono ?_
    rintro e w14 ⟨rfl, hb14⟩
    have hm := Moved.of_below hb14 HW13.out.lt
    have hb3 : Below w13.heap.size w13 (w14.alloc (.cells #[.int .u64 0, .int .u64 (y.a : Int), .int .u64 (y.b : Int), .int .u64 (y.c : Int), .int .u64 (y.d : Int), .string ⟨#[]⟩] 33)) := hb14.alloc hb14.size _
    have hm3 := Moved.of_below hb3 HW13.out.lt
    have Hq2_15 := Lib.hid (Side.newest HW13.out hm (hb14.block _ HW13.out.lt) (.cells #[.int .u64 0, .int .u64 (y.a : Int), .int .u64 (y.b : Int), .int .u64 (y.c : Int), .int .u64 (y.d : Int), .string ⟨#[]⟩] 33))
    have HO15 := Lib.hid (HO13.out.moved hm3); have HW15 := Lib.hid (HW13.out.below hb3)
    have Hq1_15 := Lib.hid (Hq1_13.out.moved hm3)
    obtain ⟨q2, hq2⟩ : ∃ q, q = w14.heap.size := ⟨_, rfl⟩
    rw [← hq2] at Hq2_15
    clear hb14 hm hb3 hm3 HO13 HW13 Hq1_13 Hq1_12
    go_upto_region 10 with fail
    rw [← hq2]
    clear hq2
    generalize (w14.alloc (.cells #[.int .u64 0, .int .u64 (y.a : Int), .int .u64 (y.b : Int), .int .u64 (y.c : Int), .int .u64 (y.d : Int), .string ⟨#[]⟩] 33)) = w15 at Hq2_15 HO15 HW15 Hq1_15 ⊢
    have hbx := HX0.out.below HO15.out.b
    obtain ⟨a0, a1, a2, a3⟩ := wd_cells hbx.a
    obtain ⟨v0, v1, v2, v3⟩ := wd_cells hbx.v
    clear hbx
    go_wp2_with fail
    refine (hle _).out.mono ?_
    rintro e w16 ⟨rfl, hb16⟩
    have hm := Moved.of_below hb16 HW15.out.lt
    have HO16 := Lib.hid (HO15.out.moved hm)
    have hq1 := (Hq1_15.out.moved hm).at_
    have hq2 := (Hq2_15.out.moved hm).at_
    have hbx := HX0.out.below HO16.out.b
    clear a0 a1 a2 a3 v0 v1 v2 v3 hb16 hm HO15 HW15 hle
    obtain ⟨a0, a1, a2, a3⟩ := wd_cells hbx.a
    obtain ⟨b0, b1, b2, b3⟩ := wd_cells hbx.b
    have x1 : w16.cell? ⟨q1, 1, none⟩ = some (.int .u64 (x.a : Int)) := cell_of hq1 1
    have x2 : w16.cell? ⟨q1, 2, none⟩ = some (.int .u64 (x.b : Int)) := cell_of hq1 2
    have x3 : w16.cell? ⟨q1, 3, none⟩ = some (.int .u64 (x.c : Int)) := cell_of hq1 3
    have x4 : w16.cell? ⟨q1, 4, none⟩ = some (.int .u64 (x.d : Int)) := cell_of hq1 4
    have y1 : w16.cell? ⟨q2, 1, none⟩ = some (.int .u64 (y.a : Int)) := cell_of hq2 1
    have y2 : w16.cell? ⟨q2, 2, none⟩ = some (.int .u64 (y.b : Int)) := cell_of hq2 2
    have y3 : w16.cell? ⟨q2, 3, none⟩ = some (.int .u64 (y.c : Int)) := cell_of hq2 3
    have y4 : w16.cell? ⟨q2, 4, none⟩ = some (.int .u64 (y.d : Int)) := cell_of hq2 4
    clear hq1 hq2 hbx
    go_wp2_with fail
    go_ret
    exact ⟨rfl, HB0.out.trans (HO16.out.b.mono (by have := HN.out; omega))⟩
  · have hl' : x.less v = false := by simpa using hl
    have hmv : ∀ W, WIs W p (.pointer none) S2 ([] ++ [St.empty] ++ [S1]) → Hid (Calls Tryz.prog 13 #[.pointer (some ⟨p, 0, none⟩), .string a, .string b, wv v] W (Moves p a b x y v W)) := fun W h => move_ok p S2 _ a b x y v W h Hab.out.1 Hab.out.2.1 Hab.out.2.2 hv hx hy HS.out.1 HS.out.2 hl' (by simp)
    have hle := fun W => Lib.hid (less_any x v hx hv W)
    rw [hl'] at hle
    clear hl hl'
    go_wp2_with fail
    go_region_held3 (fun w' => w'.cell? ⟨n + 1 + 1, 0, none⟩ = some (.int .u64 (v.a : Int)) ∧ w'.cell? ⟨n + 1 + 1, 1, none⟩ = some (.int .u64 (v.b : Int)) ∧ w'.cell? ⟨n + 1 + 1, 2, none⟩ = some (.int .u64 (v.c : Int)) ∧ w'.cell? ⟨n + 1 + 1, 3, none⟩ = some (.int .u64 (v.d : Int)))
      (first | go_keep | exact ⟨cell_of hbx.out.v 0, cell_of hbx.out.v 1, cell_of hbx.out.v 2, cell_of hbx.out.v 3⟩)
      (first
        | (go_at_call 12; (with_reducible refine (had0 _).out.mono ?_); rintro e w7 ⟨rfl, hb7⟩
           have HO7 := Lib.hid (HO6.out.moved (Moved.of_below (undrew hb7) HW6.out.lt)); have HW7 := Lib.hid (HW6.out.below (undrew hb7)); have hbx := Lib.hid (HX0.out.below HO7.out.b); clear hb7)
        | (go_at_call 12; (with_reducible refine (had1 _).out.mono ?_); rintro e w8 ⟨rfl, hb8⟩
           have HO8 := Lib.hid (HO7.out.moved (Moved.of_below hb8 HW7.out.lt)); have HW8 := Lib.hid (HW7.out.below hb8); have hbx := Lib.hid (HX0.out.below HO8.out.b); clear hb8)
        | (go_at_call 13; (with_reducible refine (hmv _ ?_).out.mono ?_); exact HW8.out; rintro e w9 ⟨rfl, S3, H3, X, Y, hw9, hm9, hXa, hYb, hXv, hYv, hXo, hYo⟩
           have HO9 := Lib.hid (HO8.out.moved hm9); have HW9 := Lib.hid hw9; have HXY := Lib.hid (And.intro hXa (And.intro hYb (And.intro hXv (And.intro hYv (And.intro hXo hYo))))); have hbx := Lib.hid (HX0.out.below HO9.out.b); clear hw9 hm9 hXa hYb hXv hYv hXo hYo))
    clear hmv c0 c1 c2 c3 HO6 HW6 HO7 HW7 HO8 HW8
    go_wp2_with fail
    refine (had0 _).out.mono ?_
    rintro e w10 ⟨rfl, hb10⟩
    have hm := Moved.of_below hb10 HW9.out.lt
    have HO10 := Lib.hid (HO9.out.moved hm); have HW10 := Lib.hid (HW9.out.below hb10)
    clear hb10 hm HO9 HW9
    go_wp2_with fail
    refine (account_bal p X S3 _ a w10 HW10.out Hab.out.1 HXY.out.1).mono ?_
    rintro e w11 ⟨rfl, hb11⟩
    have hm := Moved.of_below hb11 HW10.out.lt
    have hb3 : Below w10.heap.size w10 (w11.alloc (.cells #[.int .u64 0, .int .u64 (X.a : Int), .int .u64 (X.b : Int), .int .u64 (X.c : Int), .int .u64 (X.d : Int), .string ⟨#[]⟩] 33)) := hb11.alloc hb11.size _
    have hm3 := Moved.of_below hb3 HW10.out.lt
    have Hq1_12 := Lib.hid (Side.newest HW10.out hm (hb11.block _ HW10.out.lt) (.cells #[.int .u64 0, .int .u64 (X.a : Int), .int .u64 (X.b : Int), .int .u64 (X.c : Int), .int .u64 (X.d : Int), .string ⟨#[]⟩] 33))
    have HO12 := Lib.hid (HO10.out.moved hm3); have HW12 := Lib.hid (HW10.out.below hb3)
    obtain ⟨q1, hq1⟩ : ∃ q, q = w11.heap.size := ⟨_, rfl⟩
    rw [← hq1] at Hq1_12
    clear hb11 hm hb3 hm3 HO10 HW10
    go_upto_region 9 with fail
    rw [← hq1]
    clear hq1
    generalize (w11.alloc (.cells #[.int .u64 0, .int .u64 (X.a : Int), .int .u64 (X.b : Int), .int .u64 (X.c : Int), .int .u64 (X.d : Int), .string ⟨#[]⟩] 33)) = w12 at Hq1_12 HO12 HW12  ⊢
    go_wp2_with fail
    refine (had1 _).out.mono ?_
    rintro e w13 ⟨rfl, hb13⟩
    have hm := Moved.of_below hb13 HW12.out.lt
    have HO13 := Lib.hid (HO12.out.moved hm); have HW13 := Lib.hid (HW12.out.below hb13)
    have Hq1_13 := Lib.hid (Hq1_12.out.moved hm)
    clear hb13 hm HO12 HW12
    go_wp2_with fail
    refine (account_bal p Y S3 _ b w13 HW13.out Hab.out.2.1 HXY.out.2.1).mono ?_
    rintro e w14 ⟨rfl, hb14⟩
    have hm := Moved.of_below hb14 HW13.out.lt
    have hb3 : Below w13.heap.size w13 (w14.alloc (.cells #[.int .u64 0, .int .u64 (Y.a : Int), .int .u64 (Y.b : Int), .int .u64 (Y.c : Int), .int .u64 (Y.d : Int), .string ⟨#[]⟩] 33)) := hb14.alloc hb14.size _
    have hm3 := Moved.of_below hb3 HW13.out.lt
    have Hq2_15 := Lib.hid (Side.newest HW13.out hm (hb14.block _ HW13.out.lt) (.cells #[.int .u64 0, .int .u64 (Y.a : Int), .int .u64 (Y.b : Int), .int .u64 (Y.c : Int), .int .u64 (Y.d : Int), .string ⟨#[]⟩] 33))
    have HO15 := Lib.hid (HO13.out.moved hm3); have HW15 := Lib.hid (HW13.out.below hb3)
    have Hq1_15 := Lib.hid (Hq1_13.out.moved hm3)
    obtain ⟨q2, hq2⟩ : ∃ q, q = w14.heap.size := ⟨_, rfl⟩
    rw [← hq2] at Hq2_15
    clear hb14 hm hb3 hm3 HO13 HW13 Hq1_13 Hq1_12
    go_upto_region 10 with fail
    rw [← hq2]
    clear hq2
    generalize (w14.alloc (.cells #[.int .u64 0, .int .u64 (Y.a : Int), .int .u64 (Y.b : Int), .int .u64 (Y.c : Int), .int .u64 (Y.d : Int), .string ⟨#[]⟩] 33)) = w15 at Hq2_15 HO15 HW15 Hq1_15 ⊢
    have hbx := HX0.out.below HO15.out.b
    obtain ⟨a0, a1, a2, a3⟩ := wd_cells hbx.a
    obtain ⟨v0, v1, v2, v3⟩ := wd_cells hbx.v
    clear hbx
    go_wp2_with fail
    refine (hle _).out.mono ?_
    rintro e w16 ⟨rfl, hb16⟩
    have hm := Moved.of_below hb16 HW15.out.lt
    have HO16 := Lib.hid (HO15.out.moved hm); have HW16 := Lib.hid (HW15.out.below hb16)
    have Hq1_16 := Lib.hid (Hq1_15.out.moved hm); have Hq2_16 := Lib.hid (Hq2_15.out.moved hm)
    clear a0 a1 a2 a3 v0 v1 v2 v3 hb16 hm HO15 HW15 hle Hq1_15 Hq2_15
    have y1 : w16.cell? ⟨q2, 1, none⟩ = some (.int .u64 (Y.a : Int)) := cell_of Hq2_16.out.at_ 1
    have y2 : w16.cell? ⟨q2, 2, none⟩ = some (.int .u64 (Y.b : Int)) := cell_of Hq2_16.out.at_ 2
    have y3 : w16.cell? ⟨q2, 3, none⟩ = some (.int .u64 (Y.c : Int)) := cell_of Hq2_16.out.at_ 3
    have y4 : w16.cell? ⟨q2, 4, none⟩ = some (.int .u64 (Y.d : Int)) := cell_of Hq2_16.out.at_ 4
    have hmv : ∀ W, WIs W p (.pointer none) S3 H3 → Hid (Calls Tryz.prog 13 #[.pointer (some ⟨p, 0, none⟩), .string b, .string b, wv Y] W fun e w' => e = .returned (.int .i64 0) ∧ Below W.heap.size W w') := fun W h => move_same p S3 H3 b Y W h Hab.out.2.1 HXY.out.2.2.2.2.2 (by rw [HXY.out.2.1]; exact HXY.out.2.2.2.2.2) (by rw [HXY.out.2.1]; exact Wd.less_self HXY.out.2.2.2.2.2)
    go_wp2_with fail
    go_region_held3 (fun w' => w'.cell? ⟨q2, 1, none⟩ = some (.int .u64 (Y.a : Int)) ∧ w'.cell? ⟨q2, 2, none⟩ = some (.int .u64 (Y.b : Int)) ∧ w'.cell? ⟨q2, 3, none⟩ = some (.int .u64 (Y.c : Int)) ∧ w'.cell? ⟨q2, 4, none⟩ = some (.int .u64 (Y.d : Int)))
      (first | go_keep | exact ⟨cell_of hq2.out.at_ 1, cell_of hq2.out.at_ 2, cell_of hq2.out.at_ 3, cell_of hq2.out.at_ 4⟩)
      (first
        | (go_at_call 12; (with_reducible refine (had1 _).out.mono ?_); rintro e w17 ⟨rfl, hb17⟩
           have hm := Moved.of_below (undrew hb17) HW16.out.lt
           have HO17 := Lib.hid (HO16.out.moved hm); have HW17 := Lib.hid (HW16.out.below (undrew hb17)); have Hq1_17 := Lib.hid (Hq1_16.out.moved hm); have Hq2_17 := Lib.hid (Hq2_16.out.moved hm); have hq2 := Hq2_17; clear hb17 hm)
        | (go_at_call 12; (with_reducible refine (had1 _).out.mono ?_); rintro e w18 ⟨rfl, hb18⟩
           have hm := Moved.of_below hb18 HW17.out.lt
           have HO18 := Lib.hid (HO17.out.moved hm); have HW18 := Lib.hid (HW17.out.below hb18); have Hq1_18 := Lib.hid (Hq1_17.out.moved hm); have Hq2_18 := Lib.hid (Hq2_17.out.moved hm); have hq2 := Hq2_18; clear hb18 hm)
        | (go_at_call 13; (with_reducible refine (hmv _ ?_).out.mono ?_); exact HW18.out; rintro e w19 ⟨rfl, hb19⟩
           have hm := Moved.of_below hb19 HW18.out.lt
           have HO19 := Lib.hid (HO18.out.moved hm); have HW19 := Lib.hid (HW18.out.below hb19); have Hq1_19 := Lib.hid (Hq1_18.out.moved hm); have Hq2_19 := Lib.hid (Hq2_18.out.moved hm); have hq2 := Hq2_19; clear hb19 hm))
    clear y1 y2 y3 y4 hmv HO16 HW16 HO17 HW17 HO18 HW18 Hq1_16 Hq1_17 Hq1_18 Hq2_16 Hq2_17 Hq2_18
    go_wp2_with fail
    refine (had1 _).out.mono ?_
    rintro e w20 ⟨rfl, hb20⟩
    have hm := Moved.of_below hb20 HW19.out.lt
    have HO20 := Lib.hid (HO19.out.moved hm); have HW20 := Lib.hid (HW19.out.below hb20)
    have Hq1_20 := Lib.hid (Hq1_19.out.moved hm)
    have Hq2_20 := Lib.hid (Hq2_19.out.moved hm)
    clear hb20 hm HO19 HW19
    go_wp2_with fail
    refine (account_bal p Y S3 _ b w20 HW20.out Hab.out.2.1 HXY.out.2.1).mono ?_
    rintro e w21 ⟨rfl, hb21⟩
    have hm := Moved.of_below hb21 HW20.out.lt
    have hb3 : Below w20.heap.size w20 (w21.alloc (.cells #[.int .u64 0, .int .u64 (Y.a : Int), .int .u64 (Y.b : Int), .int .u64 (Y.c : Int), .int .u64 (Y.d : Int), .string ⟨#[]⟩] 33)) := hb21.alloc hb21.size _
    have hm3 := Moved.of_below hb3 HW20.out.lt
    have Hq3_22 := Lib.hid (Side.newest HW20.out hm (hb21.block _ HW20.out.lt) (.cells #[.int .u64 0, .int .u64 (Y.a : Int), .int .u64 (Y.b : Int), .int .u64 (Y.c : Int), .int .u64 (Y.d : Int), .string ⟨#[]⟩] 33))
    have HO22 := Lib.hid (HO20.out.moved hm3); have HW22 := Lib.hid (HW20.out.below hb3)
    have Hq1_22 := Lib.hid (Hq1_20.out.moved hm3)
    have Hq2_22 := Lib.hid (Hq2_20.out.moved hm3)
    obtain ⟨q3, hq3⟩ : ∃ q, q = w21.heap.size := ⟨_, rfl⟩
    rw [← hq3] at Hq3_22
    clear hb21 hm hb3 hm3 HO20 HW20 Hq1_20 Hq2_20 Hq1_19 Hq2_19
    go_upto_region 14 with fail
    rw [← hq3]
    clear hq3
    generalize (w21.alloc (.cells #[.int .u64 0, .int .u64 (Y.a : Int), .int .u64 (Y.b : Int), .int .u64 (Y.c : Int), .int .u64 (Y.d : Int), .string ⟨#[]⟩] 33)) = w22 at Hq3_22 HO22 HW22 Hq1_22 Hq2_22 ⊢
    have hbx := HX0.out.below HO22.out.b
    obtain ⟨a0, a1, a2, a3⟩ := wd_cells hbx.a
    obtain ⟨b0, b1, b2, b3⟩ := wd_cells hbx.b
    obtain ⟨v0, v1, v2, v3⟩ := wd_cells hbx.v
    have x1 : w22.cell? ⟨q1, 1, none⟩ = some (.int .u64 (X.a : Int)) := cell_of Hq1_22.out.at_ 1
    have x2 : w22.cell? ⟨q1, 2, none⟩ = some (.int .u64 (X.b : Int)) := cell_of Hq1_22.out.at_ 2
    have x3 : w22.cell? ⟨q1, 3, none⟩ = some (.int .u64 (X.c : Int)) := cell_of Hq1_22.out.at_ 3
    have x4 : w22.cell? ⟨q1, 4, none⟩ = some (.int .u64 (X.d : Int)) := cell_of Hq1_22.out.at_ 4
    have y0 : w22.cell? ⟨q2, 0, none⟩ = some (.int .u64 0) := cell_of Hq2_22.out.at_ 0
    have y1 : w22.cell? ⟨q2, 1, none⟩ = some (.int .u64 (Y.a : Int)) := cell_of Hq2_22.out.at_ 1
    have y2 : w22.cell? ⟨q2, 2, none⟩ = some (.int .u64 (Y.b : Int)) := cell_of Hq2_22.out.at_ 2
    have y3 : w22.cell? ⟨q2, 3, none⟩ = some (.int .u64 (Y.c : Int)) := cell_of Hq2_22.out.at_ 3
    have y4 : w22.cell? ⟨q2, 4, none⟩ = some (.int .u64 (Y.d : Int)) := cell_of Hq2_22.out.at_ 4
    have y5 : w22.cell? ⟨q2, 5, none⟩ = some (.string ⟨#[]⟩) := cell_of Hq2_22.out.at_ 5
    have z0 : w22.cell? ⟨q3, 0, none⟩ = some (.int .u64 0) := cell_of Hq3_22.out.at_ 0
    have z1 : w22.cell? ⟨q3, 1, none⟩ = some (.int .u64 (Y.a : Int)) := cell_of Hq3_22.out.at_ 1
    have z2 : w22.cell? ⟨q3, 2, none⟩ = some (.int .u64 (Y.b : Int)) := cell_of Hq3_22.out.at_ 2
    have z3 : w22.cell? ⟨q3, 3, none⟩ = some (.int .u64 (Y.c : Int)) := cell_of Hq3_22.out.at_ 3
    have z4 : w22.cell? ⟨q3, 4, none⟩ = some (.int .u64 (Y.d : Int)) := cell_of Hq3_22.out.at_ 4
    have z5 : w22.cell? ⟨q3, 5, none⟩ = some (.string ⟨#[]⟩) := cell_of Hq3_22.out.at_ 5
    clear hbx
    have heqa : ∀ W, (binOp .eql 33 (.agg #[.int .u64 0, .int .u64 (Y.a : Int), .int .u64 (Y.b : Int), .int .u64 (Y.c : Int), .int .u64 (Y.d : Int), .string ⟨#[]⟩]) (.agg #[.int .u64 0, .int .u64 (Y.a : Int), .int .u64 (Y.b : Int), .int .u64 (Y.c : Int), .int .u64 (Y.d : Int), .string ⟨#[]⟩])).run Tryz.prog W = .ok (.bool true) W := fun W => acc_same ⟨0, Y, ⟨#[]⟩⟩ W
    have hadd := fun W => Lib.hid (add_any X v HXY.out.2.2.2.2.1 hv W)
    rw [HXY.out.2.2.1] at hadd
    have hsub := fun W => Lib.hid (sub_any Y v HXY.out.2.2.2.2.2 hv W)
    rw [HXY.out.2.2.2.1] at hsub
    go_region_held3 (fun w' => w'.cell? ⟨q1, 1, none⟩ = some (.int .u64 (X.a : Int)) ∧ w'.cell? ⟨q1, 2, none⟩ = some (.int .u64 (X.b : Int)) ∧ w'.cell? ⟨q1, 3, none⟩ = some (.int .u64 (X.c : Int)) ∧ w'.cell? ⟨q1, 4, none⟩ = some (.int .u64 (X.d : Int)) ∧
        w'.cell? ⟨q2, 0, none⟩ = some (.int .u64 0) ∧ w'.cell? ⟨q2, 1, none⟩ = some (.int .u64 (Y.a : Int)) ∧ w'.cell? ⟨q2, 2, none⟩ = some (.int .u64 (Y.b : Int)) ∧ w'.cell? ⟨q2, 3, none⟩ = some (.int .u64 (Y.c : Int)) ∧ w'.cell? ⟨q2, 4, none⟩ = some (.int .u64 (Y.d : Int)) ∧ w'.cell? ⟨q2, 5, none⟩ = some (.string ⟨#[]⟩) ∧
        w'.cell? ⟨q3, 0, none⟩ = some (.int .u64 0) ∧ w'.cell? ⟨q3, 1, none⟩ = some (.int .u64 (Y.a : Int)) ∧ w'.cell? ⟨q3, 2, none⟩ = some (.int .u64 (Y.b : Int)) ∧ w'.cell? ⟨q3, 3, none⟩ = some (.int .u64 (Y.c : Int)) ∧ w'.cell? ⟨q3, 4, none⟩ = some (.int .u64 (Y.d : Int)) ∧ w'.cell? ⟨q3, 5, none⟩ = some (.string ⟨#[]⟩) ∧
        w'.cell? ⟨n, 0, none⟩ = some (.int .u64 (x.a : Int)) ∧ w'.cell? ⟨n, 1, none⟩ = some (.int .u64 (x.b : Int)) ∧ w'.cell? ⟨n, 2, none⟩ = some (.int .u64 (x.c : Int)) ∧ w'.cell? ⟨n, 3, none⟩ = some (.int .u64 (x.d : Int)) ∧
        w'.cell? ⟨n + 1, 0, none⟩ = some (.int .u64 (y.a : Int)) ∧ w'.cell? ⟨n + 1, 1, none⟩ = some (.int .u64 (y.b : Int)) ∧ w'.cell? ⟨n + 1, 2, none⟩ = some (.int .u64 (y.c : Int)) ∧ w'.cell? ⟨n + 1, 3, none⟩ = some (.int .u64 (y.d : Int)) ∧
        w'.cell? ⟨n + 1 + 1, 0, none⟩ = some (.int .u64 (v.a : Int)) ∧ w'.cell? ⟨n + 1 + 1, 1, none⟩ = some (.int .u64 (v.b : Int)) ∧ w'.cell? ⟨n + 1 + 1, 2, none⟩ = some (.int .u64 (v.c : Int)) ∧ w'.cell? ⟨n + 1 + 1, 3, none⟩ = some (.int .u64 (v.d : Int)))
      (first | go_keep | exact ⟨cell_of hq1.out.at_ 1, cell_of hq1.out.at_ 2, cell_of hq1.out.at_ 3, cell_of hq1.out.at_ 4, cell_of hq2.out.at_ 0, cell_of hq2.out.at_ 1, cell_of hq2.out.at_ 2, cell_of hq2.out.at_ 3, cell_of hq2.out.at_ 4, cell_of hq2.out.at_ 5,
          cell_of hq3.out.at_ 0, cell_of hq3.out.at_ 1, cell_of hq3.out.at_ 2, cell_of hq3.out.at_ 3, cell_of hq3.out.at_ 4, cell_of hq3.out.at_ 5, cell_of hbx.out.a 0, cell_of hbx.out.a 1, cell_of hbx.out.a 2, cell_of hbx.out.a 3, cell_of hbx.out.b 0, cell_of hbx.out.b 1, cell_of hbx.out.b 2, cell_of hbx.out.b 3,
          cell_of hbx.out.v 0, cell_of hbx.out.v 1, cell_of hbx.out.v 2, cell_of hbx.out.v 3⟩)
      (first
        | (go_at_call 16; (with_reducible refine (hadd _).out.mono ?_); rintro e w23 ⟨rfl, hb23⟩
           have hm := Moved.of_below (undrew hb23) HW22.out.lt
           have HO23 := Lib.hid (HO22.out.moved hm); have HW23 := Lib.hid (HW22.out.below (undrew hb23)); have hq1 := Lib.hid (Hq1_22.out.moved hm); have hq2 := Lib.hid (Hq2_22.out.moved hm); have hq3 := Lib.hid (Hq3_22.out.moved hm); have Hq1_23 := hq1; have Hq2_23 := hq2; have Hq3_23 := hq3; have hbx := Lib.hid (HX0.out.below HO23.out.b); clear hb23 hm)
        | (go_at_call 17; (with_reducible refine (hsub _).out.mono ?_); rintro e w24 ⟨rfl, hb24⟩
           have hm := Moved.of_below hb24 HW23.out.lt
           have HO24 := Lib.hid (HO23.out.moved hm); have hq1 := Lib.hid (Hq1_23.out.moved hm); have hq2 := Lib.hid (Hq2_23.out.moved hm); have hq3 := Lib.hid (Hq3_23.out.moved hm); have hbx := Lib.hid (HX0.out.below HO24.out.b); clear hb24 hm))
    go_wp2_with fail
    go_ret
    exact ⟨rfl, HB0.out.trans (HO24.out.b.mono (by have := HN.out; omega))⟩
end Go.Proofs.YtbjkdnbmgoibiaaGreatDoor
