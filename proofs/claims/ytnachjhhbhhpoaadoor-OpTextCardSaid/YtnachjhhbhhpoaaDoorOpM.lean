/-
  op.Text, stithyref12.Text.
-/
import Derived.Test.YtnachjhhbhhpoaaDoorOpL
import Derived.Test.YtnachjhhbhhpoaaDoorOpH
namespace Go.Proofs.YtnachjhhbhhpoaaDoor
open Go.RowKit Go.Shelf
set_option maxHeartbeats 4000000 in
set_option maxRecDepth 100000 in
theorem text_any (s : ByteArray) (m : Int) (w : World) (hm : w.cell? ⟨2, 0, none⟩ = some (.int .i64 m)) (hs : s.size < 5000) :
    Calls Tryd.prog 17 #[.string s] w fun e w' => ∃ v, e = .returned v ∧ w'.ownsRow w.heap.size 9 1 v (begins s.data.toList).length (strs' (textOf s.data.toList (begins s.data.toList))) ∧ Below w.heap.size w w' := by
  have hms := cell_lt hm
  have Hm := Lib.hid hm; clear hm
  go_enter Tryd.func17, Tryd.ntmps17
  go_wp2_with fail
  have h2 := two_blocks w (#[.string s] : Array Value) (#[.slice none 0 0] : Array Value) 9 38
  have hb0 : Below w.heap.size w ((w.alloc (.cells #[.string s] 9)).alloc (.cells #[.slice none 0 0] 38)) := ((Below.refl _ _).alloc (Nat.le_refl _) _).alloc (by simp) _
  have hmw : ((w.alloc (.cells #[.string s] 9)).alloc (.cells #[.slice none 0 0] 38)).cell? ⟨2, 0, none⟩ = some (.int .i64 m) := by
    rw [hb0.cell (p := ⟨2, 0, none⟩) hms]; exact Hm.out
  have HA := Lib.hid (all_any m _ hmw (cell_lt hmw))
  have H2 := Lib.hid h2; have HB0 := Lib.hid hb0
  clear h2 hb0 hmw
  refine HA.out.mono ?_
  rintro e w1 ⟨rfl, hmap, hb1⟩
  simp only [World.size_alloc] at hmap hb1
  have HM := Lib.hid hmap
  have hz1 : w.heap.size + 2 < w1.heap.size := hmap.lt
  have HC : Hid (w1.heap[w.heap.size]? = some (.cells #[.string s] 9 (0, 0)) ∧ w1.heap[w.heap.size + 1]? = some (.cells #[.slice none 0 0] 38 (0, 0)) ∧ Below w.heap.size w w1) :=
    ⟨by rw [hb1.block _ (by omega)]; exact H2.out.1, by rw [hb1.block _ (by omega)]; exact H2.out.2, HB0.out.trans (hb1.mono (by omega))⟩
  have c1 : w1.cell? ⟨w.heap.size, 0, none⟩ = some (.string s) := cell_of HC.out.1 0
  have hzz : w.heap.size < w1.heap.size := by omega
  clear hmap hb1 HA H2 HB0
  go_wp2_with fail
  have hI : TInv s (w.heap.size + 2) w1.heap.size w.heap.size (w.heap.size + 1) (w1.heap.size + 1) [] (w1.alloc (.cells #[.map (some (w.heap.size + 2))] 48)) := by
    refine ⟨HM.out.of_block (alloc_block hz1 _), (Go.MapKept.heap_alloc _ _).1, ?_, ⟨.slice none 0 0, ?_, by simp [textOf, strs'], .inl ⟨rfl, rfl⟩⟩, by omega, by omega, by omega, by omega, by simp, by omega, by omega, by omega⟩
    · rw [alloc_block hzz]; exact HC.out.1
    · rw [alloc_block (by omega)]; exact HC.out.2.1
  refine (eachText_any s _ _ _ _ _ _ hI hs).mono ?_
  rintro e w2 ⟨rfl, ⟨_, _, _, ⟨v, hv, ho⟩, g1, g2, g3, g4, g5, g6⟩, hK⟩
  have c2 : w2.cell? ⟨w.heap.size + 1, 0, none⟩ = some v := cell_of hv 0
  have f2 : w2.frozen? ⟨w.heap.size + 1, 0, none⟩ = false := free_of hv 0
  have Hk := Lib.hid ((HC.out.2.2.alloc (by omega) _).trans ((hK.below (by omega)).mono (Nat.le_succ _)))
  have Ho := Lib.hid ho
  have Hv := Lib.hid hv
  clear hK hI ho hv g6
  rcases Ho.out.2 with ⟨rfl, _⟩ | ⟨g, cap, cur, rfl, hh⟩
  all_goals
    go_wp2_with fail
    refine bodyPost_ret (results_cell_one Tryd.results17 _ _ (w.heap.size + 1) _ rfl (cell_of (setCell_block Hv.out 0 _) 0) (Tryd.isAgg38 _)) rfl ⟨_, rfl, ?_, ?_⟩
    · exact ownsRow_less (ownsRow_set Ho.out (by omega)) (by omega)
    · exact Hk.out.setCell (by simp) _
end Go.Proofs.YtnachjhhbhhpoaaDoor
