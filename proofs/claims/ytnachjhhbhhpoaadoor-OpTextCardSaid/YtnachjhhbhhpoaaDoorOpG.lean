/-
  The document's table: stithyref12.group, stithyref12.All.
-/
import Derived.Test.YtnachjhhbhhpoaaDoorOpF
import Derived.StillTailTactics
import Derived.OwnWalk
import Derived.Deep.AppendLies
import Derived.Deep.RegionLaw
namespace Go.Proofs.YtnachjhhbhhpoaaDoor
open Go.RowKit
/-- A row's cells. -/
def rcells (x : Nat × Opx.Inf) : List Value := [.int .i64 (x.1 : Int), .string ⟨x.2.name.toArray⟩, .int .u64 (x.2.gas : Int), .int .i64 (x.2.inn : Int), .int .i64 (x.2.out : Int)]
theorem rcells_one (l : List (Nat × Opx.Inf)) : ∀ v ∈ l.flatMap rcells, v.oneCell' = true := by
  intro v hv
  obtain ⟨x, _, hx⟩ := List.mem_flatMap.1 hv
  simp only [rcells, List.mem_cons, List.not_mem_nil, or_false] at hx
  rcases hx with rfl | rfl | rfl | rfl | rfl <;> rfl
theorem rcells_length (l : List (Nat × Opx.Inf)) : (l.flatMap rcells).length = l.length * 5 := by
  induction l with
  | nil => rfl
  | cons x l ih => rw [List.flatMap_cons, List.length_append, ih]; simp [rcells]; omega
theorem ownsRow_below {w w' : World} {base B e size n : Nat} {v : Value} {xs : List Value} (h : w.ownsRow base e size v n xs) (hb : Below B w w') (hB : w.heap.size ≤ B) : w'.ownsRow base e size v n xs := by
  obtain ⟨h1, h2⟩ := h
  refine ⟨h1, ?_⟩
  rcases h2 with h2 | ⟨g, cap, cur, h3, h4, h5, h6⟩
  · exact .inl h2
  · exact .inr ⟨g, cap, cur, h3, h4, by rw [hb.block _ (Nat.lt_of_lt_of_le (Array.getElem?_eq_some_iff.1 h5).1 hB)]; exact h5, h6⟩
theorem ownsRow_drew {w : World} {base e size n : Nat} {v : Value} {xs : List Value} (h : w.ownsRow base e size v n xs) : w.drew.ownsRow base e size v n xs := h
theorem fresh_cells (w : World) (news : List Value) (t : TypeId) : ∀ j u, news[j]? = some u → (w.alloc (.cells news.toArray t)).drew.cell? ((⟨w.heap.size, 0, none⟩ : Addr).add j) = some u := by
  intro j u hj
  have : (⟨w.heap.size, 0, none⟩ : Addr).add j = ⟨w.heap.size, j, none⟩ := by unfold Addr.add; split <;> simp_all
  rw [this]
  have h := (Go.MapKept.heap_alloc w (.cells news.toArray t)).1
  show (w.alloc (.cells news.toArray t)).cell? _ = _
  rw [cell_of h j]; simpa using hj
theorem fresh_one (x : Nat × Opx.Inf) (g i o : Nat) : ∀ u ∈ [Value.int .i64 (x.1 : Int), .string ⟨x.2.name.toArray⟩, .int .u64 (g : Int), .int .i64 (i : Int), .int .i64 (o : Int)], u.oneCell' = true := by
  intro v hx
  simp only [List.mem_cons, List.not_mem_nil, or_false] at hx
  rcases hx with rfl | rfl | rfl | rfl | rfl <;> rfl
/-- What an append onto an own row turns: nothing below the base. -/
theorem below_grown_own {a b c : World} {B e size n : Nat} {v : Value} {xs : List Value} (h : Below B a b) (ho : b.ownsRow B e size v n xs) (hg : b.grownBy c v.ownBlock) (hB : B ≤ b.heap.size) : Below B a c := by
  refine h.grown hg hB ?_
  intro k hk
  rcases ho.2 with ⟨rfl, _⟩ | ⟨g, cap, cur, rfl, h1, _⟩
  · cases hk
  · cases hk; exact h1
theorem row_info : (Tryd.prog.info? 53).map (fun i => (i.zero, i.size, i.bytes)) = some (some (.agg #[.int .i64 0, .string ByteArray.empty, .int .u64 0, .int .i64 0, .int .i64 0]), 5, 48) := by kernel_rfl

set_option maxHeartbeats 4000000 in
set_option maxRecDepth 100000 in
theorem group_any (L : List (Nat × Opx.Inf)) (bc bn n : Nat) (g i o : Nat) (w : World) (hn : L.length = n) (hn100 : n < 100)
    (hc : ∀ j x, L[j]? = some x → w.cell? ⟨bc, j, none⟩ = some (.int .i64 (x.1 : Int)) ∧ w.cell? ⟨bn, j, none⟩ = some (.string ⟨x.2.name.toArray⟩) ∧ x.2.gas = g ∧ x.2.inn = i ∧ x.2.out = o)
    (hbc : bc < w.heap.size) (hbn : bn < w.heap.size) :
    Calls Tryd.prog 30 #[.slice (some ⟨bc, 0, none⟩) n n, .slice (some ⟨bn, 0, none⟩) n n, .int .u64 (g : Int), .int .i64 (i : Int), .int .i64 (o : Int)] w fun e w' =>
      ∃ v, e = .returned v ∧ w'.ownsRow w.heap.size 53 5 v n (L.flatMap rcells) ∧ Below w.heap.size w w' := by
  have Hn := Lib.hid hn; clear hn
  have Hc := Lib.hid hc; clear hc
  obtain ⟨i0, hi, hz0, hz1, hz2⟩ := info_parts row_info
  go_enter Tryd.func30, Tryd.ntmps30
  go_wp2_with fail
  go_loopw [11, 12] (fun vl vi wr => ∃ k : Nat, vi = .int .i64 k ∧ k ≤ n ∧ wr.ownsRow w.heap.size 53 5 vl k ((L.take k).flatMap rcells) ∧ Below w.heap.size w wr)
    (fun _ vi _ => n - (intOf vi).toNat)
  case atStart => exact ⟨0, rfl, by omega, ⟨by simp, .inl ⟨rfl, rfl⟩⟩, Below.refl _ _⟩
  case round =>
    obtain ⟨k, rfl, hk, hown, hb⟩ := hrel
    have hsz := hb.size
    by_cases hkn : k < n
    · obtain ⟨x, hx⟩ : ∃ x, L[k]? = some x := ⟨L[k]'(by rw [Hn.out]; exact hkn), by simp [Hn.out, hkn]⟩
      obtain ⟨c0, c1, e1, e2, e3⟩ := Hc.out k x hx
      have d0 := hb.cell (p := ⟨bc, k, none⟩) hbc
      have d1 := hb.cell (p := ⟨bn, k, none⟩) hbn
      rw [c0] at d0
      rw [c1] at d1
      have Hx := Lib.hid hx
      have He := Lib.hid (And.intro e1 (And.intro e2 e3))
      clear c0 c1 e1 e2 e3 hx
      go_wp2_with fail
      have q0 : 0 ≤ (k : Int) := by omega
      have q4 : (k : Int) < (n : Int) := by omega
      go_region_law (refine step_append_lies _ rfl _ _ 50 rfl w.heap.size 53 i0 _ 5 48 Tryd.underlying50 hi hz0 hz1 hz2 rfl (by decide) _ _ _ rfl (ownsRow_drew (hown.alloc _)) ⟨wr.heap.size, 0, none⟩ 1 1 [.int .i64 (x.1 : Int), .string ⟨x.2.name.toArray⟩, .int .u64 (g : Int), .int .i64 (i : Int), .int .i64 (o : Int)] rfl rfl (fresh_cells wr _ _) (fresh_one x g i o) (by decide) (by unfold maxLen; omega) (by omega) (by simp; omega) (wr.heap.size + 1) (by simp) ?_; intro gg cap w1 hown1 hgrow hat hlt)
      all_goals
        have Ho := Lib.hid hown1
        have Hg := Lib.hid hgrow
        clear hown1 hgrow hat hlt
        go_wp2_with fail
        have hr : rcells x = [.int .i64 (x.1 : Int), .string ⟨x.2.name.toArray⟩, .int .u64 (g : Int), .int .i64 (i : Int), .int .i64 (o : Int)] := by
          rw [← He.out.1, ← He.out.2.1, ← He.out.2.2]; rfl
        have hap : (L.take (k + 1)).flatMap rcells = (L.take k).flatMap rcells ++ rcells x := by
          obtain ⟨hlt, rfl⟩ := List.getElem?_eq_some_iff.1 Hx.out
          rw [List.take_succ_eq_append_getElem hlt, List.flatMap_append]; simp
        refine ⟨⟨k + 1, by go_num, by omega, ?_, ?_⟩, by simp [intOf]; omega⟩
        · rw [hap, hr]; exact Ho.out
        · exact below_grown_own (hb.alloc hsz _) (hown.alloc _) (Hg.out.of_drew) (by simp; omega)
    · go_wp2_with fail
      go_ret
      have : k = n := by omega
      subst this
      rw [List.take_of_length_le (by rw [Hn.out]; omega)] at hown
      exact ⟨_, rfl, hown, hb⟩
end Go.Proofs.YtnachjhhbhhpoaaDoor
