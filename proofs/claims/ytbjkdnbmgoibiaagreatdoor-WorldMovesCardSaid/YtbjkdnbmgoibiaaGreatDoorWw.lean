/-
  Words of 256 bits, as the program has them: cut, joined, order, sum, difference.
-/
import Derived.Test.YtbjkdnbmgoibiaaGreatDoorRows
import Derived.Test.YtbjkdnbmgoibiaaGreatDoorLib2
import Derived.Test.YtbjkdnbmgoibiaaGreatDoorWt
import Derived.WalkKit
import Derived.WalkSpells
import Derived.WalkLawsBesides
import Derived.Outline
import Derived.RegionTactic
import Derived.BigRegion
import Derived.Deep.RegionHeld3
import Derived.Deep.QuietTactic
import Derived.BigQuiet
import Derived.Deep.DrawnRows
import Derived.StillTailTactics
import Derived.Shelf.Spec.BitsCarry
import Derived.MapKept
import Derived.Deep.DeepCutAuto
import Derived.Lib.Hide
namespace Go.Proofs.YtbjkdnbmgoibiaaGreatDoor
open Go.RowKit
attribute [local go_sem ↓] Go.wp_at_zero Go.wp_at_succ
/-- A word as a value. -/
abbrev wv (x : Wd) : Value := .agg #[.int .u64 (x.a : Int), .int .u64 (x.b : Int), .int .u64 (x.c : Int), .int .u64 (x.d : Int)]
/-- Its parts, the lowest first. -/
abbrev lv (x : Wd) : Value := .agg #[.int .u64 (x.d : Int), .int .u64 (x.c : Int), .int .u64 (x.b : Int), .int .u64 (x.a : Int)]
theorem at_al (w : World) (o : Obj) (k : Nat) : (w.alloc o).heap[k]? = if k = w.heap.size then some o else w.heap[k]? := by
  show (w.heap.push o)[k]? = _
  rw [Array.getElem?_push]
theorem at_dr (w : World) (k : Nat) : w.drew.heap[k]? = w.heap[k]? := rfl
theorem sub64_law (x y b : Nat) (hb : b ≤ 1) (w : World) :
    (callFunc 50 #[.int .u64 (x : Int), .int .u64 (y : Int), .int .u64 (b : Int)]).run Tryz.prog w = .ok (.value (.tuple #[.int .u64 (subS x y b : Int), .int .u64 (subC x y b : Int)])) w := by
  rw [run_callFunc_extern Tryz.func50 (by kernel_rfl) (by kernel_rfl) (by kernel_rfl) (e := sub64Entry) (by kernel_rfl), run_sub64 x y b hb]
  rfl
theorem add64_law (x y c : Nat) (hc : c ≤ 1) (w : World) :
    (callFunc 52 #[.int .u64 (x : Int), .int .u64 (y : Int), .int .u64 (c : Int)]).run Tryz.prog w = .ok (.value (.tuple #[.int .u64 (addS x y c : Int), .int .u64 (addC x y c : Int)])) w := by
  rw [run_callFunc_extern Tryz.func52 (by kernel_rfl) (by kernel_rfl) (by kernel_rfl) (e := add64Entry) (by kernel_rfl), run_add64 x y c (by omega) (by omega) (by omega) (by omega)]
  simp only [Result.andThen]
  unfold addS addC q64
  congr 5 <;> omega
/-- A result that is the newest block, whole. -/
theorem newest (w : World) (o : Obj) : (w.alloc o).heap[w.heap.size]? = some o := (Go.MapKept.heap_alloc w o).1
theorem newest2 (w : World) (o o' : Obj) : ((w.alloc o).alloc o').heap[w.heap.size + 1]? = some o' := by
  have := newest (w.alloc o) o'
  rwa [show (w.alloc o).heap.size = w.heap.size + 1 from by simp] at this
theorem below2 (w : World) (o o' : Obj) : Below w.heap.size w ((w.alloc o).alloc o') := ((Below.refl _ _).alloc (Nat.le_refl _) _).alloc (by simp) _
set_option maxHeartbeats 400000 in
/-- 'cut', with the world that it leaves written out. -/
theorem cut_ex (x : Wd) (w : World) :
    Calls Tryz.prog 49 #[wv x] w fun e w' => e = .returned (lv x) ∧ w' = (w.alloc (Obj.cells #[.int .u64 (x.a : Int), .int .u64 (x.b : Int), .int .u64 (x.c : Int), .int .u64 (x.d : Int)] 24)).alloc (Obj.cells #[.int .u64 (x.d : Int), .int .u64 (x.c : Int), .int .u64 (x.b : Int), .int .u64 (x.a : Int)] 110) := by
  go_enter Tryz.func49, Tryz.ntmps49
  go_wp2
  exact bodyPost_ret (results_row Tryz.results49 _ _ (w.heap.size + 1) _ _ _ _ rfl (newest2 _ _ _) Tryz.underlying110 rfl (by kernel_rfl)) rfl ⟨rfl, rfl⟩
set_option maxHeartbeats 400000 in
theorem cut_any (x : Wd) (w : World) :
    Calls Tryz.prog 49 #[wv x] w fun e w' => e = .returned (lv x) ∧ Below w.heap.size w w' := by
  go_enter Tryz.func49, Tryz.ntmps49
  go_wp2
  exact bodyPost_ret (results_row Tryz.results49 _ _ (w.heap.size + 1) _ _ _ _ rfl (newest2 _ _ _) Tryz.underlying110 rfl (by kernel_rfl)) rfl ⟨rfl, below2 _ _ _⟩
set_option maxHeartbeats 400000 in
theorem join_any (x : Wd) (w : World) :
    Calls Tryz.prog 94 #[lv x] w fun e w' => e = .returned (wv x) ∧ Below w.heap.size w w' := by
  go_enter Tryz.func94, Tryz.ntmps94
  go_wp2
  exact bodyPost_ret (results_row Tryz.results94 _ _ (w.heap.size + 1) _ _ _ _ rfl (newest2 _ _ _) Tryz.underlying24 rfl (by kernel_rfl)) rfl ⟨rfl, below2 _ _ _⟩
set_option maxHeartbeats 400000 in
theorem from_any (n : Nat) (w : World) :
    Calls Tryz.prog 26 #[.int .u64 (n : Int)] w fun e w' => e = .returned (wv ⟨0, 0, 0, n⟩) ∧ Below w.heap.size w w' := by
  go_enter Tryz.func26, Tryz.ntmps26
  go_wp2
  exact bodyPost_ret (results_row Tryz.results26 _ _ w.heap.size _ _ _ _ rfl (newest _ _) Tryz.underlying24 rfl (by kernel_rfl)) rfl ⟨rfl, (Below.refl _ _).alloc (Nat.le_refl _) _⟩
/-- Two boxed words of a call, at its first two blocks; all that was there stands. -/
abbrev TwoW (x y : Wd) (w w' : World) : Prop :=
  w'.cell? ⟨w.heap.size, 0, none⟩ = some (.int .u64 (x.a : Int)) ∧ w'.cell? ⟨w.heap.size, 1, none⟩ = some (.int .u64 (x.b : Int)) ∧ w'.cell? ⟨w.heap.size, 2, none⟩ = some (.int .u64 (x.c : Int)) ∧ w'.cell? ⟨w.heap.size, 3, none⟩ = some (.int .u64 (x.d : Int)) ∧
  w'.cell? ⟨w.heap.size + 1, 0, none⟩ = some (.int .u64 (y.a : Int)) ∧ w'.cell? ⟨w.heap.size + 1, 1, none⟩ = some (.int .u64 (y.b : Int)) ∧ w'.cell? ⟨w.heap.size + 1, 2, none⟩ = some (.int .u64 (y.c : Int)) ∧ w'.cell? ⟨w.heap.size + 1, 3, none⟩ = some (.int .u64 (y.d : Int)) ∧
  w.heap.size + 1 < w'.heap.size ∧ Below w.heap.size w w'
theorem TwoW.below {x y : Wd} {w a b : World} {B : Nat} (h : TwoW x y w a) (hb : Below B a b) (hB : a.heap.size ≤ B) : TwoW x y w b := by
  obtain ⟨h1, h2, h3, h4, h5, h6, h7, h8, h9, h10⟩ := h
  have k := (bcell (hb.mono hB)).1
  refine ⟨by rw [k _ _ (by omega)]; exact h1, by rw [k _ _ (by omega)]; exact h2, by rw [k _ _ (by omega)]; exact h3, by rw [k _ _ (by omega)]; exact h4, by rw [k _ _ (by omega)]; exact h5, by rw [k _ _ (by omega)]; exact h6,
    by rw [k _ _ (by omega)]; exact h7, by rw [k _ _ (by omega)]; exact h8, by have := hb.size; omega, h10.trans (hb.mono (by omega))⟩
theorem TwoW.drew {x y : Wd} {w a : World} (h : TwoW x y w a) : TwoW x y w a.drew := h.below (Below.refl a.heap.size a).drew (Nat.le_refl _)
theorem TwoW.alloc {x y : Wd} {w a : World} (h : TwoW x y w a) (o : Obj) : TwoW x y w (a.alloc o) := h.below ((Below.refl a.heap.size a).alloc (Nat.le_refl _) o) (Nat.le_refl _)
theorem TwoW.made (x y : Wd) (w : World) : TwoW x y w ((w.alloc (Obj.cells #[.int .u64 (x.a : Int), .int .u64 (x.b : Int), .int .u64 (x.c : Int), .int .u64 (x.d : Int)] 24)).alloc (Obj.cells #[.int .u64 (y.a : Int), .int .u64 (y.b : Int), .int .u64 (y.c : Int), .int .u64 (y.d : Int)] 24)) := by
  have e0 : ((w.alloc (Obj.cells #[.int .u64 (x.a : Int), .int .u64 (x.b : Int), .int .u64 (x.c : Int), .int .u64 (x.d : Int)] 24)).alloc (Obj.cells #[.int .u64 (y.a : Int), .int .u64 (y.b : Int), .int .u64 (y.c : Int), .int .u64 (y.d : Int)] 24)).heap[w.heap.size]? = some (.cells #[.int .u64 (x.a : Int), .int .u64 (x.b : Int), .int .u64 (x.c : Int), .int .u64 (x.d : Int)] 24 (0, 0)) := by
    rw [alloc_block (by simp)]; exact newest w _
  have e1 := newest2 w (Obj.cells #[.int .u64 (x.a : Int), .int .u64 (x.b : Int), .int .u64 (x.c : Int), .int .u64 (x.d : Int)] 24) (Obj.cells #[.int .u64 (y.a : Int), .int .u64 (y.b : Int), .int .u64 (y.c : Int), .int .u64 (y.d : Int)] 24)
  exact ⟨cell_of e0 0, cell_of e0 1, cell_of e0 2, cell_of e0 3, cell_of e1 0, cell_of e1 1, cell_of e1 2, cell_of e1 3, by simp, below2 _ _ _⟩
/-- Two blocks of four parts. -/
def TwoL (x y : Wd) (w : World) (g h : Value) (wx : World) : Prop := ∃ i j : Nat, g = .pointer (some ⟨i, 0, none⟩) ∧ h = .pointer (some ⟨j, 0, none⟩) ∧ i ≠ j ∧ w.heap.size ≤ i ∧ w.heap.size ≤ j ∧
  wx.heap[i]? = some (Obj.cells #[.int .u64 (x.d : Int), .int .u64 (x.c : Int), .int .u64 (x.b : Int), .int .u64 (x.a : Int)] 110 (0, 0)) ∧
  wx.heap[j]? = some (Obj.cells #[.int .u64 (y.d : Int), .int .u64 (y.c : Int), .int .u64 (y.b : Int), .int .u64 (y.a : Int)] 110 (0, 0)) ∧ Below w.heap.size w wx
theorem beq_one (n : Nat) : ((n : Int) == 1) = (n == 1) := by
  rw [Bool.eq_iff_iff]; simp; omega
theorem below_drewN {B : Nat} {w w' : World} (h : Below B w w') (q : Nat) : Below B w (w'.drewN q) := ⟨h.os, h.tape, h.output, h.size, h.block⟩
theorem parts_cells {wc : World} {i : Nat} {x : Wd} (bi : wc.heap[i]? = some (Obj.cells #[.int .u64 (x.d : Int), .int .u64 (x.c : Int), .int .u64 (x.b : Int), .int .u64 (x.a : Int)] 110 (0, 0))) :
    ∀ n, n < 4 → wc.cell? ⟨i, n, none⟩ = some (.int .u64 (x.part n : Int)) := by
  intro n hn
  rw [cell_of bi]
  match n, hn with
  | 0, _ => rfl
  | 1, _ => rfl
  | 2, _ => rfl
  | 3, _ => rfl
set_option maxHeartbeats 4000000 in
set_option maxRecDepth 100000 in
theorem less_any (x y : Wd) (hx : x.Ok) (hy : y.Ok) (w : World) :
    Calls Tryz.prog 15 #[wv x, wv y] w fun e w' => e = .returned (.bool (x.less y)) ∧ Below w.heap.size w w' := by
  go_enter Tryz.func15, Tryz.ntmps15
  go_upto_region 1 with fail
  go_cut [5, 6] (fun s5 s6 wx => TwoL x y w s5 s6 wx)
  case first =>
    go_region_held3 (fun w' => w'.cell? ⟨w.heap.size, 0, none⟩ = some (.int .u64 (x.a : Int)) ∧ w'.cell? ⟨w.heap.size, 1, none⟩ = some (.int .u64 (x.b : Int)) ∧ w'.cell? ⟨w.heap.size, 2, none⟩ = some (.int .u64 (x.c : Int)) ∧ w'.cell? ⟨w.heap.size, 3, none⟩ = some (.int .u64 (x.d : Int)) ∧
        w'.cell? ⟨w.heap.size + 1, 0, none⟩ = some (.int .u64 (y.a : Int)) ∧ w'.cell? ⟨w.heap.size + 1, 1, none⟩ = some (.int .u64 (y.b : Int)) ∧ w'.cell? ⟨w.heap.size + 1, 2, none⟩ = some (.int .u64 (y.c : Int)) ∧ w'.cell? ⟨w.heap.size + 1, 3, none⟩ = some (.int .u64 (y.d : Int)) ∧
        w.heap.size + 1 < w'.heap.size ∧ Below w.heap.size w w')
      (with_reducible (first | exact (TwoW.made x y w).drew | exact ((TwoW.made x y w).alloc _).drew | exact (((TwoW.made x y w).alloc _).alloc _).drew | exact ((((TwoW.made x y w).alloc _).alloc _).alloc _).drew | exact (((((TwoW.made x y w).alloc _).alloc _).alloc _).alloc _).drew | exact ((((((TwoW.made x y w).alloc _).alloc _).alloc _).alloc _).alloc _).drew | exact (((((((TwoW.made x y w).alloc _).alloc _).alloc _).alloc _).alloc _).alloc _).drew | exact TwoW.made x y w | exact (TwoW.made x y w).alloc _ | exact ((TwoW.made x y w).alloc _).alloc _ | exact (((TwoW.made x y w).alloc _).alloc _).alloc _ | exact ((((TwoW.made x y w).alloc _).alloc _).alloc _).alloc _ | exact (((((TwoW.made x y w).alloc _).alloc _).alloc _).alloc _).alloc _ | exact ((((((TwoW.made x y w).alloc _).alloc _).alloc _).alloc _).alloc _).alloc _))
      (first
        | (go_at_call 49; (with_reducible refine (cut_ex x _).mono ?_); rintro e w1 ⟨rfl, rfl⟩)
        | (go_at_call 49; (with_reducible refine (cut_ex y _).mono ?_); rintro e w1 ⟨rfl, rfl⟩))
    all_goals
      go_wp2_with fail
      go_meet
      refine ⟨_, _, rfl, rfl, by omega, by omega, by omega, ?_, ?_, ?_⟩
      · (rw [at_dr]; repeat (rw [at_al]; first | rw [if_neg (by simp only [World.size_alloc]; omega)] | rw [if_pos (by simp only [World.size_alloc])] | rw [if_pos rfl]))
      · (rw [at_dr]; repeat (rw [at_al]; first | rw [if_neg (by simp only [World.size_alloc]; omega)] | rw [if_pos (by simp only [World.size_alloc])] | rw [if_pos rfl]))
      · exact ((((((((Below.refl _ _).alloc (by (try simp only [World.size_alloc]); omega) _).alloc (by (try simp only [World.size_alloc]); omega) _).alloc (by (try simp only [World.size_alloc]); omega) _).alloc (by (try simp only [World.size_alloc]); omega) _).alloc (by (try simp only [World.size_alloc]); omega) _).alloc (by (try simp only [World.size_alloc]); omega) _).alloc (by (try simp only [World.size_alloc]); omega) _).alloc (by (try simp only [World.size_alloc]); omega) _ |>.drew
  case rest =>
    obtain ⟨i, j, rfl, rfl, hij, hi, hj, bi, bj, hb⟩ := hcut
    have ci := parts_cells bi
    have cj := parts_cells bj
    have Ci := Lib.hid ci; have Cj := Lib.hid cj; have Hb := Lib.hid hb
    clear ci cj bi bj hb
    go_wp2_with fail
    go_loopw [7, 13] (fun vc vk wr => ∃ k : Nat, vk = .int .i64 k ∧ k ≤ 4 ∧ vc = .int .u64 (carryTo subC x y k : Int) ∧ ∃ q, wr = wc.drewN q) (fun _ vk _ => 4 - (intOf vk).toNat)
    case atStart => exact ⟨0, rfl, by omega, rfl, 0, rfl⟩
    case round =>
      obtain ⟨k, rfl, hk, rfl, q, rfl⟩ := hrel
      by_cases hlt : k < 4
      · have c0 := Ci.out k hlt
        have c1 := Cj.out k hlt
        have q0 : 0 ≤ (k : Int) := by omega
        have q1 : (k : Int) < 4 := by omega
        have hl := fun W => sub64_law (x.part k) (y.part k) (carryTo subC x y k) (carryTo_le (fun _ _ _ _ _ _ => subC_le _ _ _) hx hy k) W
        go_wp2_with fail
        go_quiet (fail)
        go_wp2_with fail
        exact ⟨⟨k + 1, by go_num, by omega, rfl, _, rfl⟩, by simp [intOf]; omega⟩
      · have h4 : k = 4 := by omega
        subst h4
        have hc : carryTo subC x y 4 ≤ 1 := carryTo_le (fun _ _ _ _ _ _ => subC_le _ _ _) hx hy 4
        go_wp2_with fail
        go_ret
        exact ⟨retb (by rw [Wd.less_carry]; exact beq_one _), below_drewN Hb.out _⟩
theorem zero_cells {w : World} {b : Nat} (h : w.heap[b]? = some (Obj.cells #[.int .u64 0, .int .u64 0, .int .u64 0, .int .u64 0] 24 (0, 0))) :
    (w.cell? ⟨b, 0, none⟩ = some (.int .u64 0) ∧ w.cell? ⟨b, 1, none⟩ = some (.int .u64 0) ∧ w.cell? ⟨b, 2, none⟩ = some (.int .u64 0) ∧ w.cell? ⟨b, 3, none⟩ = some (.int .u64 0)) ∧
    w.frozen? ⟨b, 0, none⟩ = false ∧ w.frozen? ⟨b, 1, none⟩ = false ∧ w.frozen? ⟨b, 2, none⟩ = false ∧ w.frozen? ⟨b, 3, none⟩ = false :=
  ⟨⟨cell_of h 0, cell_of h 1, cell_of h 2, cell_of h 3⟩, free_of h 0, free_of h 1, free_of h 2, free_of h 3⟩
theorem word_stored {w : World} {b : Nat} (h : w.heap[b]? = some (Obj.cells #[.int .u64 0, .int .u64 0, .int .u64 0, .int .u64 0] 24 (0, 0))) (z : Wd) :
    ((((w.setCell ⟨b, 0, none⟩ (.int .u64 (z.a : Int))).setCell ⟨b, 1, none⟩ (.int .u64 (z.b : Int))).setCell ⟨b, 2, none⟩ (.int .u64 (z.c : Int))).setCell ⟨b, 3, none⟩ (.int .u64 (z.d : Int))).heap[b]? =
      some (Obj.cells #[.int .u64 (z.a : Int), .int .u64 (z.b : Int), .int .u64 (z.c : Int), .int .u64 (z.d : Int)] 24 (0, 0)) :=
  setCell_block (setCell_block (setCell_block (setCell_block h 0 _) 1 _) 2 _) 3 _
theorem third_block {w : World} {o o' o2 : Obj} {w2 : World} (hb : Below (((w.alloc o).alloc o').alloc o2).heap.size (((w.alloc o).alloc o').alloc o2) w2) : w2.heap[w.heap.size + 2]? = some o2 ∧ Below w.heap.size w w2 := by
  constructor
  · rw [hb.block _ (by simp only [World.size_alloc]; omega)]
    have := newest2 (w.alloc o) o' o2
    rwa [show (w.alloc o).heap.size + 1 = w.heap.size + 2 from by simp only [World.size_alloc]] at this
  · exact ((((Below.refl _ _).alloc (Nat.le_refl _) _).alloc (by simp) _).alloc (by simp only [World.size_alloc]; omega) _).trans (hb.mono (by simp only [World.size_alloc]; omega))
theorem mix_step {x z : Wd} {k v : Nat} (h : k < 4) (hv : v = z.part k) :
    (#[.int .u64 ((mix x z k).d : Int), .int .u64 ((mix x z k).c : Int), .int .u64 ((mix x z k).b : Int), .int .u64 ((mix x z k).a : Int)] : Array Value).setIfInBounds k (.int .u64 (v : Int)) =
      #[.int .u64 ((mix x z (k + 1)).d : Int), .int .u64 ((mix x z (k + 1)).c : Int), .int .u64 ((mix x z (k + 1)).b : Int), .int .u64 ((mix x z (k + 1)).a : Int)] := by
  subst hv
  match k, h with
  | 0, _ => rfl
  | 1, _ => rfl
  | 2, _ => rfl
  | 3, _ => rfl
set_option maxHeartbeats 4000000 in
set_option maxRecDepth 100000 in
theorem carried_any (f : FuncId) (S C : Nat → Nat → Nat → Nat) (hC : ∀ x y c, x < q64 → y < q64 → c ≤ 1 → C x y c ≤ 1)
    (law : ∀ (a b c : Nat), c ≤ 1 → ∀ W, (callFunc f #[.int .u64 (a : Int), .int .u64 (b : Int), .int .u64 (c : Int)]).run Tryz.prog W = .ok (.value (.tuple #[.int .u64 (S a b c : Int), .int .u64 (C a b c : Int)])) W)
    (x y : Wd) (hx : x.Ok) (hy : y.Ok) (w : World) :
    Calls Tryz.prog 51 #[wv x, wv y, .func (.func f) #[] #[]] w fun e w' => e = .returned (wv (thru S C x y)) ∧ Below w.heap.size w w' := by
  have Law := Lib.hid law; clear law
  go_enter Tryz.func51, Tryz.ntmps51
  go_upto_region 1 with fail
  go_cut [7, 8] (fun s7 s8 wx => ∃ i j : Nat, s7 = .pointer (some ⟨i, 0, none⟩) ∧ s8 = .pointer (some ⟨j, 0, none⟩) ∧ i ≠ j ∧ w.heap.size + 2 < i ∧ w.heap.size + 2 < j ∧ wx.heap[i]? = some (Obj.cells #[.int .u64 (x.d : Int), .int .u64 (x.c : Int), .int .u64 (x.b : Int), .int .u64 (x.a : Int)] 110 (0, 0)) ∧ wx.heap[j]? = some (Obj.cells #[.int .u64 (y.d : Int), .int .u64 (y.c : Int), .int .u64 (y.b : Int), .int .u64 (y.a : Int)] 110 (0, 0)) ∧ wx.heap[w.heap.size + 2]? = some (Obj.cells #[.int .u64 0, .int .u64 0, .int .u64 0, .int .u64 0] 24 (0, 0)) ∧ Below w.heap.size w wx)
  case first =>
    go_region_held3 (fun w' => w'.cell? ⟨w.heap.size, 0, none⟩ = some (.int .u64 (x.a : Int)) ∧ w'.cell? ⟨w.heap.size, 1, none⟩ = some (.int .u64 (x.b : Int)) ∧ w'.cell? ⟨w.heap.size, 2, none⟩ = some (.int .u64 (x.c : Int)) ∧ w'.cell? ⟨w.heap.size, 3, none⟩ = some (.int .u64 (x.d : Int)) ∧
        w'.cell? ⟨w.heap.size + 1, 0, none⟩ = some (.int .u64 (y.a : Int)) ∧ w'.cell? ⟨w.heap.size + 1, 1, none⟩ = some (.int .u64 (y.b : Int)) ∧ w'.cell? ⟨w.heap.size + 1, 2, none⟩ = some (.int .u64 (y.c : Int)) ∧ w'.cell? ⟨w.heap.size + 1, 3, none⟩ = some (.int .u64 (y.d : Int)) ∧
        w.heap.size + 1 < w'.heap.size ∧ Below w.heap.size w w')
      (with_reducible (first | exact (TwoW.made x y w).drew | exact ((TwoW.made x y w).alloc _).drew | exact (((TwoW.made x y w).alloc _).alloc _).drew | exact ((((TwoW.made x y w).alloc _).alloc _).alloc _).drew | exact (((((TwoW.made x y w).alloc _).alloc _).alloc _).alloc _).drew | exact ((((((TwoW.made x y w).alloc _).alloc _).alloc _).alloc _).alloc _).drew | exact (((((((TwoW.made x y w).alloc _).alloc _).alloc _).alloc _).alloc _).alloc _).drew | exact ((((((((TwoW.made x y w).alloc _).alloc _).alloc _).alloc _).alloc _).alloc _).alloc _).drew | exact TwoW.made x y w | exact (TwoW.made x y w).alloc _ | exact ((TwoW.made x y w).alloc _).alloc _ | exact (((TwoW.made x y w).alloc _).alloc _).alloc _ | exact ((((TwoW.made x y w).alloc _).alloc _).alloc _).alloc _ | exact (((((TwoW.made x y w).alloc _).alloc _).alloc _).alloc _).alloc _ | exact ((((((TwoW.made x y w).alloc _).alloc _).alloc _).alloc _).alloc _).alloc _ | exact (((((((TwoW.made x y w).alloc _).alloc _).alloc _).alloc _).alloc _).alloc _).alloc _))
      (first
        | (go_at_call 49; (with_reducible refine (cut_ex x _).mono ?_); rintro e w1 ⟨rfl, rfl⟩)
        | (go_at_call 49; (with_reducible refine (cut_ex y _).mono ?_); rintro e w1 ⟨rfl, rfl⟩))
    all_goals
      go_wp2_with fail
      go_meet
      refine ⟨_, _, rfl, rfl, by omega, by omega, by omega, ?_, ?_, ?_, ?_⟩
      · (rw [at_dr]; repeat (rw [at_al]; first | rw [if_neg (by simp only [World.size_alloc]; omega)] | rw [if_pos (by simp only [World.size_alloc])] | rw [if_pos rfl]))
      · (rw [at_dr]; repeat (rw [at_al]; first | rw [if_neg (by simp only [World.size_alloc]; omega)] | rw [if_pos (by simp only [World.size_alloc])] | rw [if_pos rfl]))
      · (rw [at_dr]; repeat (rw [at_al]; first | rw [if_neg (by simp only [World.size_alloc]; omega)] | rw [if_pos (by simp only [World.size_alloc])] | rw [if_pos rfl]))
      · exact ((((((((((Below.refl _ _).alloc (by (try simp only [World.size_alloc]); omega) _).alloc (by (try simp only [World.size_alloc]); omega) _).alloc (by (try simp only [World.size_alloc]); omega) _).alloc (by (try simp only [World.size_alloc]); omega) _).alloc (by (try simp only [World.size_alloc]); omega) _).alloc (by (try simp only [World.size_alloc]); omega) _).alloc (by (try simp only [World.size_alloc]); omega) _).alloc (by (try simp only [World.size_alloc]); omega) _).alloc (by (try simp only [World.size_alloc]); omega) _).drew
  case rest =>
    obtain ⟨i, j, rfl, rfl, hij, hi, hj, bi, bj, br, hb⟩ := hcut
    have Cj := Lib.hid (parts_cells bj)
    obtain ⟨z, hz⟩ : ∃ z, z = thru S C x y := ⟨_, rfl⟩
    have Hz := Lib.hid hz; clear hz
    go_wp2_with fail
    go_loopw [9, 15] (fun vc vk wr => ∃ k : Nat, vk = .int .i64 k ∧ k ≤ 4 ∧ vc = .int .u64 (carryTo C x y k : Int) ∧
        wr.heap[i]? = some (Obj.cells #[.int .u64 ((mix x z k).d : Int), .int .u64 ((mix x z k).c : Int), .int .u64 ((mix x z k).b : Int), .int .u64 ((mix x z k).a : Int)] 110 (0, 0)) ∧
        wr.heap[j]? = wc.heap[j]? ∧ wr.heap[w.heap.size + 2]? = some (Obj.cells #[.int .u64 0, .int .u64 0, .int .u64 0, .int .u64 0] 24 (0, 0)) ∧ Below w.heap.size w wr) (fun _ vk _ => 4 - (intOf vk).toNat)
    case atStart => exact ⟨0, rfl, by omega, rfl, bi, rfl, br, hb⟩
    case round =>
      clear bi br hb
      obtain ⟨k, rfl, hk, rfl, bi, bj', br, hb⟩ := hrel
      by_cases hlt : k < 4
      · have c0 := parts_cells bi k hlt
        rw [mix_part _ _ _ hlt] at c0
        have c1 : wr.cell? ⟨j, k, none⟩ = some (.int .u64 (y.part k : Int)) := by
          rw [World.cell?_of_block (w := wc) bj']; exact Cj.out k hlt
        have f0 : wr.frozen? ⟨i, k, none⟩ = false := free_of bi k
        have q0 : 0 ≤ (k : Int) := by omega
        have q1 : (k : Int) < 4 := by omega
        have hl := fun W => Law.out (x.part k) (y.part k) (carryTo C x y k) (carryTo_le hC hx hy k) W
        have Bi := Lib.hid bi; have Br := Lib.hid br; have Bj := Lib.hid bj'; have Hb := Lib.hid hb
        clear bi br bj' hb bj
        go_wp2_with fail
        go_region
        go_wp2_with fail
        have e1 := setCell_block (Bi.out) k (.int .u64 (S (x.part k) (y.part k) (carryTo C x y k) : Int))
        rw [mix_step (z := z) hlt (by rw [Hz.out]; exact (thru_part S C x y k hlt).symm)] at e1
        exact ⟨⟨k + 1, by go_num, by omega, rfl, e1, (setCell_other hij k _).trans Bj.out, (setCell_other (by omega) k _).trans Br.out, (Hb.out.setCell (by show w.heap.size ≤ i; omega) _).drew⟩, by simp [intOf]; omega⟩
      · have h4 : k = 4 := by omega
        subst h4
        rw [mix_four] at bi
        have d0 : wr.cell? ⟨i, 0, none⟩ = some (.int .u64 (z.d : Int)) := cell_of bi 0
        have d1 : wr.cell? ⟨i, 1, none⟩ = some (.int .u64 (z.c : Int)) := cell_of bi 1
        have d2 : wr.cell? ⟨i, 2, none⟩ = some (.int .u64 (z.b : Int)) := cell_of bi 2
        have d3 : wr.cell? ⟨i, 3, none⟩ = some (.int .u64 (z.a : Int)) := cell_of bi 3
        have Br := Lib.hid br; have Hb := Lib.hid hb
        clear bi br bj' hb bj
        go_wp2_with fail
        refine (join_any z _).mono ?_
        rintro e w2 ⟨rfl, hb2⟩
        have hlt2 : w.heap.size + 2 < wr.heap.size := (Array.getElem?_eq_some_iff.1 Br.out).1
        have br2 : w2.heap[w.heap.size + 2]? = some (Obj.cells #[.int .u64 0, .int .u64 0, .int .u64 0, .int .u64 0] 24 (0, 0)) := by
          rw [hb2.block _ hlt2]; exact Br.out
        have g0 : w2.cell? ⟨w.heap.size + 2, 0, none⟩ = some (.int .u64 0) := cell_of br2 0
        have g1 : w2.cell? ⟨w.heap.size + 2, 1, none⟩ = some (.int .u64 0) := cell_of br2 1
        have g2 : w2.cell? ⟨w.heap.size + 2, 2, none⟩ = some (.int .u64 0) := cell_of br2 2
        have g3 : w2.cell? ⟨w.heap.size + 2, 3, none⟩ = some (.int .u64 0) := cell_of br2 3
        have f0 : ∀ o, w2.frozen? ⟨w.heap.size + 2, o, none⟩ = false := free_of br2
        have f1 := f0 0; have f2 := f0 1; have f3 := f0 2; have f4 := f0 3
        have HB := Lib.hid (Hb.out.trans (hb2.mono (by omega)))
        have Br2 := Lib.hid br2
        clear br2 f0 hb2
        go_wp2_with fail
        exact bodyPost_ret (results_row Tryz.results51 _ _ (w.heap.size + 2) _ _ _ _ rfl (word_stored Br2.out z) Tryz.underlying24 rfl (by kernel_rfl)) rfl
          ⟨by rw [← Hz.out], (((HB.out.setCell (by show w.heap.size ≤ w.heap.size + 2; omega) _).setCell (by show w.heap.size ≤ w.heap.size + 2; omega) _).setCell (by show w.heap.size ≤ w.heap.size + 2; omega) _).setCell (by show w.heap.size ≤ w.heap.size + 2; omega) _⟩
set_option maxHeartbeats 4000000 in
set_option maxRecDepth 100000 in
theorem add_any (x y : Wd) (hx : x.Ok) (hy : y.Ok) (w : World) :
    Calls Tryz.prog 16 #[wv x, wv y] w fun e w' => e = .returned (wv (x.add y)) ∧ Below w.heap.size w w' := by
  obtain ⟨z, hz⟩ : ∃ z, z = x.add y := ⟨_, rfl⟩
  have Hz := Lib.hid hz
  have hc := fun W => Lib.hid (carried_any 52 addS addC (fun _ _ _ => addC_le) add64_law x y hx hy W)
  rw [show thru addS addC x y = z from hz.symm] at hc
  clear hz
  go_enter Tryz.func16, Tryz.ntmps16
  go_wp2_with fail
  refine (hc _).out.mono ?_
  rintro e w2 ⟨rfl, hb2⟩
  clear hc
  obtain ⟨br2, HB0⟩ := third_block hb2
  obtain ⟨⟨g0, g1, g2, g3⟩, f1, f2, f3, f4⟩ := zero_cells br2
  have Br2 := Lib.hid br2
  have HB := Lib.hid HB0
  clear br2 HB0 hb2
  go_wp2_with fail
  exact bodyPost_ret (results_row Tryz.results16 _ _ (w.heap.size + 2) _ _ _ _ rfl (word_stored Br2.out z) Tryz.underlying24 rfl (by kernel_rfl)) rfl
    ⟨by rw [← Hz.out], (((HB.out.setCell (by show w.heap.size ≤ w.heap.size + 2; omega) _).setCell (by show w.heap.size ≤ w.heap.size + 2; omega) _).setCell (by show w.heap.size ≤ w.heap.size + 2; omega) _).setCell (by show w.heap.size ≤ w.heap.size + 2; omega) _⟩
set_option maxHeartbeats 4000000 in
set_option maxRecDepth 100000 in
theorem sub_any (x y : Wd) (hx : x.Ok) (hy : y.Ok) (w : World) :
    Calls Tryz.prog 17 #[wv x, wv y] w fun e w' => e = .returned (wv (x.sub y)) ∧ Below w.heap.size w w' := by
  obtain ⟨z, hz⟩ : ∃ z, z = x.sub y := ⟨_, rfl⟩
  have Hz := Lib.hid hz
  have hc := fun W => Lib.hid (carried_any 50 subS subC (fun x y c _ _ _ => subC_le x y c) sub64_law x y hx hy W)
  rw [show thru subS subC x y = z from hz.symm] at hc
  clear hz
  go_enter Tryz.func17, Tryz.ntmps17
  go_wp2_with fail
  refine (hc _).out.mono ?_
  rintro e w2 ⟨rfl, hb2⟩
  clear hc
  obtain ⟨br2, HB0⟩ := third_block hb2
  obtain ⟨⟨g0, g1, g2, g3⟩, f1, f2, f3, f4⟩ := zero_cells br2
  have Br2 := Lib.hid br2
  have HB := Lib.hid HB0
  clear br2 HB0 hb2
  go_wp2_with fail
  exact bodyPost_ret (results_row Tryz.results17 _ _ (w.heap.size + 2) _ _ _ _ rfl (word_stored Br2.out z) Tryz.underlying24 rfl (by kernel_rfl)) rfl
    ⟨by rw [← Hz.out], (((HB.out.setCell (by show w.heap.size ≤ w.heap.size + 2; omega) _).setCell (by show w.heap.size ≤ w.heap.size + 2; omega) _).setCell (by show w.heap.size ≤ w.heap.size + 2; omega) _).setCell (by show w.heap.size ≤ w.heap.size + 2; omega) _⟩
end Go.Proofs.YtbjkdnbmgoibiaaGreatDoor
