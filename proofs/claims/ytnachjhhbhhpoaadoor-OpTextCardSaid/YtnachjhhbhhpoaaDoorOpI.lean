/-
  strings.Builder's WriteByte at this program; op.hex, stithyref12.Hex: a text's sixteenths.
-/
import Derived.Test.YtnachjhhbhhpoaaDoorOpA
import Derived.Test.YtnachjhhbhhpoaaDoorLib2
import Derived.Test.YtnachjhhbhhpoaaDoorShelf
import Derived.OwnWalk
import Derived.Shelf.Strings.BuilderX
import Derived.Lib.Builder
namespace Go.Proofs.YtnachjhhbhhpoaaDoor
open Go.RowKit Go.Shelf
set_option maxHeartbeats 1000000 in
set_option maxRecDepth 100000 in
/-- copyCheck at a builder that has been used: nothing turns. -/
theorem copyCheck_used (b : Nat) (w : World) (h0 : w.cell? ⟨b, 0, none⟩ = some (.pointer (some ⟨b, 0, none⟩))) :
    Calls Tryd.prog 38 #[.pointer (some ⟨b, 0, none⟩)] w fun e w' => e = .returned (.tuple #[]) ∧ w' = w := by
  obtain ⟨j, hj, _⟩ := Option.map_eq_some_iff.1 (show (Tryd.prog.info? 70).map (·.size) = some 2 by kernel_rfl)
  go_enter Tryd.func38, Tryd.ntmps38
  go_wp2
  rw [Lib.run_neq_ptr_same w _ Tryd.underlying68 hj]
  go_wp2
  go_end0
  exact ⟨rfl, rfl⟩

set_option maxHeartbeats 1000000 in
set_option maxRecDepth 100000 in
/-- copyCheck at a fresh builder: it stores its own address. -/
theorem copyCheck_fresh (b : Nat) (w : World) (h0 : w.cell? ⟨b, 0, none⟩ = some (.pointer none)) (hsh : w.shape? b = some (70, 2)) (hfz : w.frozen? ⟨b, 0, none⟩ = false) :
    Calls Tryd.prog 38 #[.pointer (some ⟨b, 0, none⟩)] w fun e w' => e = .returned (.tuple #[]) ∧ w' = w.setCell ⟨b, 0, none⟩ (.pointer (some ⟨b, 0, none⟩)) := by
  obtain ⟨j, hj, hjs⟩ := Option.map_eq_some_iff.1 (show (Tryd.prog.info? 70).map (·.size) = some 2 by kernel_rfl)
  go_enter Tryd.func38, Tryd.ntmps38
  go_wp2
  rw [Lib.run_to_unsafe w ⟨b, 0, none⟩ Tryd.underlying68 Tryd.underlying84 hj (by rw [hjs]; decide) hsh (Nat.zero_lt_succ 1)]
  simp only [Result.andThen]
  rw [Oper.upon_value]
  go_wp2
  rw [run_callFunc_extern Tryd.func49 (by kernel_rfl) (by kernel_rfl) (by kernel_rfl) (e := Extern.AbiNoEscape.same) (by kernel_rfl)]
  rw [Lib.run_noEscape]
  simp only [Result.andThen]
  rw [Oper.upon_value]
  go_wp2
  rw [Lib.run_from_unsafe w ⟨b, 0, none⟩ Tryd.underlying84 Tryd.underlying68 hj hsh (by kernel_rfl)]
  simp only [Result.andThen]
  rw [Oper.upon_value]
  go_wp2
  go_end0
  exact ⟨rfl, rfl⟩
theorem copyCheck_any (B b : Nat) (bs : List Value) (w : World) (h : Lib.IsBuilder 70 5 B b bs w) :
    Calls Tryd.prog 38 #[.pointer (some ⟨b, 0, none⟩)] w fun e w' => e = .returned (.tuple #[]) ∧ (Lib.BuilderAt 70 5 B b (.pointer (some ⟨b, 0, none⟩)) bs w' ∧ Below B w w') := by
  rcases h with h | h
  · refine (copyCheck_fresh b w h.cell0 h.shape h.frozen0).mono ?_
    rintro e w' ⟨rfl, rfl⟩
    exact ⟨rfl, h.used _, (Below.refl B w).setCell (p := ⟨b, 0, none⟩) h.1 _⟩
  · refine (copyCheck_used b w h.cell0).mono ?_
    rintro e w' ⟨rfl, rfl⟩
    exact ⟨rfl, h, Below.refl B _⟩

/-- w' is w but for block b and for what lies from block R on. -/
structure Keeps (R b : Nat) (w w' : World) : Prop where
  os : w'.os = w.os
  tape : w'.tape = w.tape
  output : w'.output = w.output
  size : w.heap.size ≤ w'.heap.size
  block : ∀ k, k < R → k ≠ b → w'.heap[k]? = w.heap[k]?
theorem Keeps.refl (R b : Nat) (w : World) : Keeps R b w w := ⟨rfl, rfl, rfl, Nat.le_refl _, fun _ _ _ => rfl⟩
theorem Keeps.trans {R b : Nat} {x y z : World} (h : Keeps R b x y) (k : Keeps R b y z) : Keeps R b x z :=
  ⟨k.os.trans h.os, k.tape.trans h.tape, k.output.trans h.output, Nat.le_trans h.size k.size, fun i hi hne => (k.block i hi hne).trans (h.block i hi hne)⟩
theorem Keeps.of_below {R b : Nat} {x y : World} (h : Below R x y) : Keeps R b x y := ⟨h.os, h.tape, h.output, h.size, fun k hk _ => h.block k hk⟩
theorem Keeps.below {R b : Nat} {x y : World} (h : Keeps R b x y) (hb : b ≤ R) : Below b x y := ⟨h.os, h.tape, h.output, h.size, fun k hk => h.block k (by omega) (by omega)⟩
/-- A builder in block b that holds bs; its row lies from block R on. -/
def BldAt (R b : Nat) (p : Value) (bs : List Value) (w : World) : Prop :=
  b < R ∧ ∃ v, w.heap[b]? = some (.cells #[p, v] 70 (0, 0)) ∧ w.ownsRow R 5 1 v bs.length bs
def Bld (R b : Nat) (bs : List Value) (w : World) : Prop := BldAt R b (.pointer none) bs w ∨ BldAt R b (.pointer (some ⟨b, 0, none⟩)) bs w
theorem Bld.lt {R b : Nat} {bs : List Value} {w : World} (h : Bld R b bs w) : b < R ∧ b < w.heap.size := by
  rcases h with ⟨h, v, hb, _⟩ | ⟨h, v, hb, _⟩ <;> exact ⟨h, (Array.getElem?_eq_some_iff.1 hb).1⟩
theorem copyCheck_bld (R b : Nat) (bs : List Value) (w : World) (h : Bld R b bs w) :
    Calls Tryd.prog 38 #[.pointer (some ⟨b, 0, none⟩)] w fun e w' => e = .returned (.tuple #[]) ∧ BldAt R b (.pointer (some ⟨b, 0, none⟩)) bs w' ∧ Keeps R b w w' := by
  rcases h with ⟨hR, v, hb, ho⟩ | h
  · refine (copyCheck_fresh b w (cell_of hb 0) (by simp [World.shape?, hb]) (free_of hb 0)).mono ?_
    rintro e w' ⟨rfl, rfl⟩
    refine ⟨rfl, ⟨hR, v, setCell_block hb 0 _, ?_⟩, ⟨rfl, rfl, rfl, by simp [World.setCell], fun k _ hk => setCell_other (Ne.symm hk) _ _⟩⟩
    obtain ⟨h1, h2⟩ := ho
    refine ⟨h1, ?_⟩
    rcases h2 with h2 | ⟨g, cap, cur, h3, h4, h5, h6⟩
    · exact .inl h2
    · exact .inr ⟨g, cap, cur, h3, h4, by rw [setCell_other (by omega)]; exact h5, h6⟩
  · obtain ⟨hR, v, hb, ho⟩ := h
    refine (copyCheck_used b w (cell_of hb 0)).mono ?_
    rintro e w' ⟨rfl, rfl⟩
    exact ⟨rfl, ⟨hR, v, hb, ho⟩, Keeps.refl _ _ _⟩

set_option maxHeartbeats 2000000 in
set_option maxRecDepth 100000 in
theorem writeByte_any (R b : Nat) (bs : List Value) (c : Int) (w : World) (h : Bld R b bs w) (hlen : bs.length + 1 ≤ 140737488355328) (hBw : R ≤ w.heap.size) :
    Calls Tryd.prog 32 #[.pointer (some ⟨b, 0, none⟩), .int .u8 c] w fun e w' => e = .returned .nilIface ∧ BldAt R b (.pointer (some ⟨b, 0, none⟩)) (bs ++ [.int .u8 c]) w' ∧ Keeps R b w w' := by
  obtain ⟨i0, hi, hz0, hz1, hz2⟩ := info_parts (show (Tryd.prog.info? 5).map (fun i => (i.zero, i.size, i.bytes)) = some (some (.int .u8 0), 1, 1) by kernel_rfl)
  go_enter Tryd.func32, Tryd.ntmps32
  go_wp2_with fail
  refine (copyCheck_bld R b bs _ h).mono ?_
  rintro e w1 ⟨rfl, h1, hb1⟩
  obtain ⟨hB, v, hbk, hown⟩ := h1
  have c0 : w1.cell? ⟨b, 0, none⟩ = some (.pointer (some ⟨b, 0, none⟩)) := by rw [Lib.cell_of_heap hbk]; rfl
  have c1 : w1.cell? ⟨b, 1, none⟩ = some v := by rw [Lib.cell_of_heap hbk]; rfl
  have HB1 := Lib.hid hb1
  have hs1 := hb1.size
  clear hb1
  go_wp2_with (at_builtin; refine wpList_append_own _ rfl _ _ 42 rfl R 5 i0 (.int .u8 0) 1 1 Tryd.underlying42 hi hz0 hz1 hz2 rfl (by decide) _ _ _ rfl (hown.alloc _) ⟨w1.heap.size, 0, none⟩ 1 1 [.int .u8 c] rfl rfl ?c1 ?c2 ?c3 ?c4 ?c5 ?_)
  case c1 =>
    intro j u hj
    match j, hj with
    | 0, hj => simp at hj; subst hj; simp [Addr.add]
  case c2 => intro u hu; simp at hu; subst hu; rfl
  case c3 => unfold maxLen; omega
  case c4 => omega
  case c5 => simp; omega
  intro v' w2 hown' hgrow _
  have hlt : b < w1.heap.size := (Array.getElem?_eq_some_iff.1 hbk).1
  have hrow : ∀ k, v.ownBlock = some k → R ≤ k := fun k hk => (hown.lt k hk).1
  have hb2 : w2.heap[b]? = some (.cells #[.pointer (some ⟨b, 0, none⟩), v] 70 (0, 0)) := by
    rw [hgrow.block b (by simp; omega) (fun e => by have := hrow b e.symm; omega), alloc_block hlt]
    exact hbk
  have d0 : w2.cell? ⟨b, 0, none⟩ = some (.pointer (some ⟨b, 0, none⟩)) := by rw [Lib.cell_of_heap hb2]; rfl
  have d1 : w2.cell? ⟨b, 1, none⟩ = some v := by rw [Lib.cell_of_heap hb2]; rfl
  have f1 : w2.frozen? ⟨b, 1, none⟩ = false := Lib.frozen_of_heap hb2 1
  obtain ⟨g, cap, rfl⟩ : ∃ g cap, v' = .slice (some ⟨g, 0, none⟩) (bs.length + 1) cap := by
    rcases hown'.2 with ⟨_, h0⟩ | ⟨g, cap, cur, hv, _⟩
    · omega
    · exact ⟨g, cap, hv⟩
  go_wp2
  go_ret
  refine ⟨rfl, ⟨hB, _, setCell_block hb2 1 _, ?_⟩, ?_⟩
  · obtain ⟨_, h2⟩ := hown'
    refine ⟨by simp, ?_⟩
    rcases h2 with ⟨_, h0⟩ | ⟨g', cap', cur, h3, h4, h5, h6⟩
    · omega
    · exact .inr ⟨g', cap', cur, by simpa using h3, h4, by rw [setCell_other (by omega)]; exact h5, by simpa using h6⟩
  · refine HB1.out.trans ⟨hgrow.os, hgrow.tape, hgrow.output, ?_, ?_⟩
    · have := hgrow.size; simp [World.setCell] at this ⊢; omega
    · intro k hk hne
      rw [setCell_other (Ne.symm hne), hgrow.block k (by simp; omega) (fun e => by have := hrow k e.symm; omega), alloc_block (by omega)]
end Go.Proofs.YtnachjhhbhhpoaaDoor
