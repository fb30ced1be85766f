/-
  op.Of, op.Code: what the table tells.
-/
import Derived.Test.YtnachjhhbhhpoaaDoorOpE
import Derived.Test.YtnachjhhbhhpoaaDoorLib2
namespace Go.Proofs.YtnachjhhbhhpoaaDoor
open Go.RowKit
theorem foldl_other (l : List (Nat × Opx.Inf)) (f : Value → Option Value) (c : Nat) (h : ∀ x ∈ l, x.1 ≠ c) : l.foldl (fun f x => upd f (.int .u8 (x.1 : Int)) (infv x.2)) f (.int .u8 (c : Int)) = f (.int .u8 (c : Int)) := by
  induction l generalizing f with
  | nil => rfl
  | cons y l ih =>
    rw [List.foldl_cons, ih _ fun x hx => h x (by simp [hx])]
    refine upd_other ?_
    intro e
    have := h y (by simp)
    simp only [Value.int.injEq, true_and] at e
    omega
theorem foldl_mem (l : List (Nat × Opx.Inf)) (f : Value → Option Value) (x : Nat × Opx.Inf) (hx : x ∈ l) (h : ∀ y ∈ l, y.1 = x.1 → y = x) : l.foldl (fun f x => upd f (.int .u8 (x.1 : Int)) (infv x.2)) f (.int .u8 (x.1 : Int)) = some (infv x.2) := by
  induction l generalizing f with
  | nil => cases hx
  | cons y l ih =>
    rw [List.foldl_cons]
    by_cases hl : x ∈ l
    · exact ih _ hl fun z hz => h z (by simp [hz])
    · rcases List.mem_cons.1 hx with rfl | hx'
      · rw [foldl_other l _ x.1 (fun z hz e => hl (by rw [← h z (by simp [hz]) e]; exact hz))]
        exact upd_same _ _ _
      · exact absurd hx' hl
theorem tabF_look (c : Nat) : tabF Opx.T (.int .u8 (c : Int)) = (Opx.look Opx.T c).map infv := by
  unfold Opx.look
  cases h : Opx.T.find? (fun x => x.1 == c) with
  | none =>
    rw [List.find?_eq_none] at h
    exact foldl_other _ _ _ (fun x hx e => h x hx (by simpa using e))
  | some x =>
    have hx := List.mem_of_find?_eq_some h
    have hc : x.1 = c := by simpa using List.find?_some h
    subst hc
    exact foldl_mem _ _ x hx fun y hy e => Opx.codes_apart y hy x hx e
/-- The zero Info. -/
def zinf : Value := .agg #[.string ByteArray.empty, .int .u64 0, .int .i64 0, .int .i64 0]
theorem zero_inf (w : World) : (zeroValue 25).run Tryd.prog w = .ok zinf w := by kernel_rfl
/-- An Info's parts, of a code. -/
def infOf (c : Nat) : Opx.Inf := (Opx.look Opx.T c).getD ⟨[], 0, 0, 0⟩
def known (c : Nat) : Bool := (Opx.look Opx.T c).isSome
theorem infv_infOf (c : Nat) : (tabF Opx.T (.int .u8 (c : Int))).getD zinf = infv (infOf c) := by
  rw [tabF_look]; unfold infOf
  cases Opx.look Opx.T c <;> rfl
theorem isSome_known (c : Nat) : (tabF Opx.T (.int .u8 (c : Int))).isSome = known c := by
  rw [tabF_look]; unfold known
  cases Opx.look Opx.T c <;> rfl

set_option maxHeartbeats 4000000 in
set_option maxRecDepth 100000 in
theorem of_any (c : Nat) (m : Int) (w : World) (hm : w.cell? ⟨2, 0, none⟩ = some (.int .i64 m)) :
    Calls Tryd.prog 9 #[.int .u8 (c : Int)] w fun e w' => e = .returned (.tuple #[infv (infOf c), .bool (known c)]) ∧ Below w.heap.size w w' := by
  have hms := cell_lt hm
  have Hm := Lib.hid hm; clear hm
  go_enter Tryd.func9, Tryd.ntmps9
  go_wp2_with fail
  refine (all_any m _ (by rw [World.cell?_alloc_past _ _ _ hms]; exact Hm.out) (by simp; omega)).mono ?_
  rintro e w1 ⟨rfl, hmap, hb⟩
  simp only [World.size_alloc] at hmap hb
  have hk := infv_infOf c
  have hs := isSome_known c
  obtain ⟨x, hx⟩ : ∃ x, x = infOf c := ⟨_, rfl⟩
  obtain ⟨ok, hok0⟩ : ∃ ok, ok = known c := ⟨_, rfl⟩
  rw [← hx] at hk
  rw [← hok0] at hs
  have Hx := Lib.hid hx; clear hx
  have Ho := Lib.hid hok0; clear hok0
  obtain ⟨hb0, hz1, hbw⟩ := still_there hb
  have c0 : w1.cell? ⟨w.heap.size, 0, none⟩ = some (.string ByteArray.empty) := cell_of hb0 0
  have c1 : w1.cell? ⟨w.heap.size, 1, none⟩ = some (.int .u64 0) := cell_of hb0 1
  have c2 : w1.cell? ⟨w.heap.size, 2, none⟩ = some (.int .i64 0) := cell_of hb0 2
  have c3 : w1.cell? ⟨w.heap.size, 3, none⟩ = some (.int .i64 0) := cell_of hb0 3
  have f0 : w1.frozen? ⟨w.heap.size, 0, none⟩ = false := free_of hb0 0
  have f1 : w1.frozen? ⟨w.heap.size, 1, none⟩ = false := free_of hb0 1
  have f2 : w1.frozen? ⟨w.heap.size, 2, none⟩ = false := free_of hb0 2
  have f3 : w1.frozen? ⟨w.heap.size, 3, none⟩ = false := free_of hb0 3
  have Hb := Lib.hid hbw
  have Hbk := Lib.hid hb0
  clear hb hb0 hbw
  go_wp2_with (first | (at_lookup; refine wpList_look2 (K := KB) w1 rfl _ _ 48 rfl 5 25 Tryd.underlying48 koB _ _ zinf (zero_inf w1) rfl hmap (.int .u8 (c : Int)) rfl (kb _) ?_; intro v ok' hv hok; rw [hk] at hv; rw [hs] at hok; subst hv hok; unfold infv))
  have he : Ending.returned (.tuple #[.agg #[.string { data := x.name.toArray }, .int .u64 (x.gas : Int), .int .i64 (x.inn : Int), .int .i64 (x.out : Int)], .bool ok']) = .returned (.tuple #[infv (infOf c), .bool (known c)]) := by
    rw [← Hx.out, ← Ho.out]; rfl
  refine bodyPost_ret (results_row_tmp Tryd.results9 _ _ w.heap.size 25 #[.string { data := x.name.toArray }, .int .u64 (x.gas : Int), .int .i64 (x.inn : Int), .int .i64 (x.out : Int)] (0, 0) _ rfl
    ((alloc_block (by simp; omega) _).trans (setCell_block (setCell_block (setCell_block (setCell_block Hbk.out 0 _) 1 _) 2 _) 3 _)) Tryd.underlying25 rfl (by kernel_rfl)) rfl ⟨he, ?_⟩
  exact ((((Hb.out.setCell (Nat.le_refl _) _).setCell (Nat.le_refl _) _).setCell (Nat.le_refl _) _).setCell (Nat.le_refl _) _).alloc (by simp; omega) _

/-- A name's code. -/
def codeOf (n : List UInt8) : Nat := (Opx.code Opx.T n).getD 0
def named (n : List UInt8) : Bool := (Opx.code Opx.T n).isSome
theorem tabF_row {k v : Value} (hk : tabF Opx.T k = some v) (hb : KB k) : ∃ x, x ∈ Opx.T ∧ k = .int .u8 (x.1 : Int) ∧ v = infv x.2 := by
  have hmem : ∀ (l : List (Nat × Opx.Inf)) (f : Value → Option Value), l.foldl (fun f x => upd f (.int .u8 (x.1 : Int)) (infv x.2)) f k = some v → (∃ x, x ∈ l ∧ k = .int .u8 (x.1 : Int) ∧ v = infv x.2) ∨ f k = some v := by
    intro l
    induction l with
    | nil => intro f h; exact .inr h
    | cons y l ih =>
      intro f h
      rw [List.foldl_cons] at h
      rcases ih _ h with ⟨x, hx, h1, h2⟩ | h'
      · exact .inl ⟨x, by simp [hx], h1, h2⟩
      · by_cases hy : k = .int .u8 (y.1 : Int)
        · subst hy
          rw [upd_same] at h'
          exact .inl ⟨y, by simp, rfl, by simpa using h'.symm⟩
        · rw [upd_other hy] at h'
          exact .inr h'
  rcases hmem _ _ hk with h | h
  · exact h
  · cases h
theorem tabF_of_mem {x : Nat × Opx.Inf} (hx : x ∈ Opx.T) : tabF Opx.T (.int .u8 (x.1 : Int)) = some (infv x.2) := foldl_mem _ _ x hx fun y hy e => Opx.codes_apart y hy x hx e

set_option maxHeartbeats 4000000 in
set_option maxRecDepth 100000 in
theorem code_any (s : ByteArray) (m : Int) (w : World) (hm : w.cell? ⟨2, 0, none⟩ = some (.int .i64 m)) :
    Calls Tryd.prog 11 #[.string s] w fun e w' => e = .returned (.tuple #[.int .u8 (codeOf s.data.toList : Int), .bool (named s.data.toList)]) ∧ Below w.heap.size w w' := by
  have hms := cell_lt hm
  have Hm := Lib.hid hm; clear hm
  go_enter Tryd.func11, Tryd.ntmps11
  go_wp2_with fail
  refine (all_any m _ Hm.out hms).mono ?_
  rintro e w1 ⟨rfl, hmap, hb⟩
  obtain ⟨n0, hrun, m0, hit⟩ := hmap.range (P := Tryd.prog) Tryd.underlying48
  have hb2 : Below w.heap.size w (w1.alloc (.mapIter (some w.heap.size) n0 #[] n0)) := hb.alloc (by have := hb.size; omega) _
  obtain ⟨w2, hw2⟩ : ∃ w2, w2 = w1.alloc (.mapIter (some w.heap.size) n0 #[] n0) := ⟨_, rfl⟩
  rw [← hw2] at hrun hit hb2
  have hlt : w.heap.size < w1.heap.size := hmap.lt
  obtain ⟨r, hr⟩ : ∃ r, r = w1.heap.size := ⟨_, rfl⟩
  rw [← hr] at hrun hit hlt
  clear hw2 hb hmap hr
  go_wp2_with fail
  go_loopw [8] (fun _ wr => ∃ done n, IterIs KB wr r w.heap.size (tabF Opx.T) done n ∧ Hid (∀ x, x ∈ Opx.T → done (.int .u8 (x.1 : Int)) → x.2.name ≠ s.data.toList) ∧ Below w.heap.size w wr)
    (fun _ wr => iterLeft wr r w.heap.size)
  case atStart => exact ⟨_, _, hit, fun _ _ h => h.elim, hb2⟩
  case round =>
    obtain ⟨done, n, hI, hno, hbw⟩ := hrel
    cases n with
    | zero =>
      have hov := hI.over (P := Tryd.prog) 0
      obtain ⟨hov1, hov2⟩ := hov
      have Hn := Lib.hid hov2; clear hov2
      go_wp2_with fail
      go_ret2
      have hnone : Opx.code Opx.T s.data.toList = none := Opx.code_none fun x hx => hno.out x hx (Hn.out _ _ (tabF_of_mem hx))
      exact ⟨ret2 (by unfold codeOf; rw [hnone]; rfl) (by unfold named; rw [hnone]; rfl), hbw⟩
    | succ n =>
      obtain ⟨k, v, w3, h1, h2, h3, h4, h5, h6, h7⟩ := hI.step (P := Tryd.prog) 0
      obtain ⟨x, hx, rfl, rfl⟩ := tabF_row h3 (hI.map.key h3)
      unfold infv at h1 h2
      have hbr : w.heap.size ≤ r := by omega
      have Hb3 : Hid (Below w.heap.size w w3) := hbw.grown h6 (by have := hI.lt; omega) (by intro j hj; cases hj; exact hbr)
      have Hs3 : w.heap.size < w3.heap.size ∧ r < w3.heap.size := ⟨by have := hI.lt; omega, by have := hI.lt; omega⟩
      obtain ⟨hs3, hs4⟩ := Hs3
      have H5 := Lib.hid h5; clear h5
      have HL : Hid (iterLeft wr r w.heap.size = n + 1) := hI.left
      clear h3 h7 h6 hbw
      by_cases hn : x.2.name = s.data.toList
      · have hne : (x.2.name == s.toList) = true := by rw [ByteArray.toList_eq]; simpa using hn
        have Hn := Lib.hid hn; clear hn
        go_wp2_with fail
        go_ret2
        have hsome : Opx.code Opx.T s.data.toList = some x.1 := Opx.code_of_mem hx Hn.out
        exact ⟨ret2 (by unfold codeOf; rw [hsome]; rfl) (by unfold named; rw [hsome]; rfl), Hb3.out.alloc (by omega) _⟩
      · have hne : (x.2.name == s.toList) = false := by rw [ByteArray.toList_eq]; simpa using hn
        have Hn := Lib.hid hn; clear hn
        go_wp2_with fail
        refine ⟨⟨_, n, H5.out.of_blocks (alloc_block hs3 _) (alloc_block hs4 _), ?_, Hb3.out.alloc (by omega) _⟩, ?_⟩
        · intro y hy hd
          rcases hd with hd | hd
          · simp only [Value.int.injEq, true_and] at hd
            have : y = x := Opx.codes_apart y hy x hx (by omega)
            rw [this]; exact Hn.out
          · exact hno.out y hy hd
        · rw [(H5.out.of_blocks (alloc_block hs3 _) (alloc_block hs4 _)).left, HL.out]
          omega
end Go.Proofs.YtnachjhhbhhpoaaDoor
