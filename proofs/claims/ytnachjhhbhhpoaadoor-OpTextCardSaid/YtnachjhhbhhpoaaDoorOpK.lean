/-
  op.Jumps, stithyref12.Jumps: where may be jumped to.
-/
import Derived.Test.YtnachjhhbhhpoaaDoorOpJ
import Derived.Test.YtnachjhhbhhpoaaDoorOpG
namespace Go.Proofs.YtnachjhhbhhpoaaDoor
open Go.RowKit Go.Shelf
/-- A text's byte, or 0. -/
def byteAt (l : List UInt8) (i : Nat) : Nat := (l[i]?.getD 0).toNat
/-- How many bytes a code at a place takes with it. -/
def tail (l : List UInt8) (i : Nat) : Nat := (pushN (byteAt l i : Int)).toNat
/-- Where instructions begin, from i on. -/
def starts (l : List UInt8) : Nat → Nat → List Nat
  | 0, _ => []
  | f + 1, i => if i < l.length then i :: starts l f (i + 1 + tail l i) else []
/-- Where instructions begin. -/
def begins (l : List UInt8) : List Nat := starts l (l.length + 1) 0
theorem starts_past (l : List UInt8) (f i : Nat) (h : l.length ≤ i) : starts l f i = [] := by
  cases f with
  | zero => rfl
  | succ f => unfold starts; rw [if_neg (by omega)]
theorem starts_min (l : List UInt8) (f i : Nat) : starts l f (min i l.length) = starts l f i := by
  by_cases h : i ≤ l.length
  · rw [Nat.min_eq_left h]
  · rw [starts_past l f i (by omega), starts_past l f _ (by omega)]
/-- Where may be jumped to, of some places. -/
def jumpsOf (l : List UInt8) (p : List Nat) : List Nat := p.filter fun i => byteAt l i == 91
/-- Numbers as cells. -/
def nats (p : List Nat) : List Value := p.map fun (i : Nat) => Value.int .i64 (i : Int)
theorem nats_snoc (p : List Nat) (i : Nat) : nats (p ++ [i]) = nats p ++ [.int .i64 (i : Int)] := by simp [nats]
theorem nats_length (p : List Nat) : (nats p).length = p.length := by simp [nats]

theorem one_cell_int (q : IntKind) (n : Int) : ∀ u ∈ [Value.int q n], u.oneCell' = true := by
  intro u hu; simp at hu; subst hu; rfl
theorem ownsRow_set {w : World} {R e size n b : Nat} {v : Value} {xs : List Value} (h : w.ownsRow R e size v n xs) (hb : b < R) {o : Nat} {u : Value} : (w.setCell ⟨b, o, none⟩ u).ownsRow R e size v n xs := by
  obtain ⟨h1, h2⟩ := h
  refine ⟨h1, ?_⟩
  rcases h2 with h2 | ⟨g, cap, cur, h3, h4, h5, h6⟩
  · exact .inl h2
  · exact .inr ⟨g, cap, cur, h3, h4, by rw [setCell_other (by omega)]; exact h5, h6⟩
theorem ownsRow_less {w : World} {R R' e size n : Nat} {v : Value} {xs : List Value} (h : w.ownsRow R e size v n xs) (hR : R' ≤ R) : w.ownsRow R' e size v n xs := by
  obtain ⟨h1, h2⟩ := h
  refine ⟨h1, ?_⟩
  rcases h2 with h2 | ⟨g, cap, cur, h3, h4, h5⟩
  · exact .inl h2
  · exact .inr ⟨g, cap, cur, h3, by omega, h5⟩
theorem two_blocks (w : World) (C N : Array Value) (t t' : TypeId) : ((w.alloc (.cells C t)).alloc (.cells N t')).heap[w.heap.size]? = some (.cells C t (0, 0)) ∧ ((w.alloc (.cells C t)).alloc (.cells N t')).heap[w.heap.size + 1]? = some (.cells N t' (0, 0)) := by
  constructor
  · rw [alloc_block (by simp)]; exact (Go.MapKept.heap_alloc w _).1
  · have h := (Go.MapKept.heap_alloc (w.alloc (.cells C t)) (.cells N t')).1
    rwa [World.size_alloc] at h
/-- What op.Jumps' variables hold behind some instructions. -/
structure JInv (s : ByteArray) (bc bo R : Nat) (done : List Nat) (w : World) : Prop where
  code : w.heap[bc]? = some (.cells #[.string s] 9 (0, 0))
  out : ∃ v, w.heap[bo]? = some (.cells #[v] 36 (0, 0)) ∧ w.ownsRow R 3 1 v (jumpsOf s.data.toList done).length (nats (jumpsOf s.data.toList done))
  lt : bc < bo ∧ bo < R ∧ R ≤ w.heap.size

set_option maxHeartbeats 2000000 in
set_option maxRecDepth 100000 in
theorem jumpsFn_any (s d : ByteArray) (bc bo R i : Nat) (done : List Nat) (w : World) (hI : JInv s bc bo R done w) (hi : i < s.size) (hn : done.length < 10000) (_hs : s.size < 10000) :
    Calls Tryd.prog 22 #[.int .i64 (i : Int), .string d, .pointer (some ⟨bc, 0, none⟩), .pointer (some ⟨bo, 0, none⟩)] w fun e w' =>
      e = .returned (.tuple #[]) ∧ JInv s bc bo R (done ++ [i]) w' ∧ Keeps R bo w w' := by
  obtain ⟨hc, ⟨v, hv, hown⟩, h1, h2, h3⟩ := hI
  obtain ⟨i0, hi0, hz0, hz1, hz2⟩ := info_parts (show (Tryd.prog.info? 3).map (fun i => (i.zero, i.size, i.bytes)) = some (some (.int .i64 0), 1, 8) by kernel_rfl)
  have c0 : w.cell? ⟨bc, 0, none⟩ = some (.string s) := cell_of hc 0
  have c1 : w.cell? ⟨bo, 0, none⟩ = some v := cell_of hv 0
  have hb : ((s[i]'hi).toNat : Int) = (byteAt s.data.toList i : Int) := by
    unfold byteAt
    have hl : i < s.data.toList.length := hi
    rw [List.getElem?_eq_getElem hl]; rfl
  by_cases h91 : byteAt s.data.toList i = 91
  · have hq : (((s[i]'hi).toNat : Int) == 91) = true := by rw [hb, h91]; rfl
    have H91 := Lib.hid (And.intro h91 hb); clear h91 hb
    go_enter Tryd.func22, Tryd.ntmps22
    have hlen : (jumpsOf s.data.toList done).length ≤ done.length := List.length_filter_le _ _
    go_wp2_with (at_builtin; refine wpList_append_own _ rfl _ _ 36 rfl R 3 i0 (.int .i64 0) 1 8 Tryd.underlying36 hi0 hz0 hz1 hz2 rfl (by decide) _ _ _ rfl (hown.alloc _) ⟨w.heap.size, 0, none⟩ 1 1 [.int .i64 (i : Int)] rfl rfl (cell_one_new _ _ _) (one_cell_int _ _) (by unfold maxLen; omega) (by omega) (by simp; omega) ?_)
    intro v' w2 hown' hgrow _
    have hrow : ∀ k, v.ownBlock = some k → R ≤ k := fun k hk => (hown.lt k hk).1
    have hb2 : w2.heap[bo]? = some (.cells #[v] 36 (0, 0)) := by
      rw [hgrow.block bo (by simp; omega) (fun e => by have := hrow bo e.symm; omega), alloc_block (by omega)]
      exact hv
    have hc2 : w2.heap[bc]? = some (.cells #[.string s] 9 (0, 0)) := by
      rw [hgrow.block bc (by simp; omega) (fun e => by have := hrow bc e.symm; omega), alloc_block (by omega)]
      exact hc
    have hs2 := hgrow.size
    have d1 : w2.cell? ⟨bo, 0, none⟩ = some v := cell_of hb2 0
    have f1 : w2.frozen? ⟨bo, 0, none⟩ = false := free_of hb2 0
    obtain ⟨g, cap, rfl⟩ : ∃ g cap, v' = .slice (some ⟨g, 0, none⟩) ((jumpsOf s.data.toList done).length + 1) cap := by
      rcases hown'.2 with ⟨_, h0⟩ | ⟨g, cap, cur, hv, _⟩
      · omega
      · exact ⟨g, cap, hv⟩
    go_wp2
    go_end0
    have hj : jumpsOf s.data.toList (done ++ [i]) = jumpsOf s.data.toList done ++ [i] := by
      unfold jumpsOf; rw [List.filter_append]; simp [H91.out.1]
    refine ⟨rfl, ⟨?_, ⟨_, setCell_block hb2 0 _, ?_⟩, h1, h2, ?_⟩, ?_⟩
    · rw [setCell_other (by omega)]; exact hc2
    · rw [hj, nats_snoc, List.length_append]
      exact ownsRow_set hown' (by omega)
    · simp [World.setCell] at hs2 ⊢; omega
    · refine ⟨hgrow.os, hgrow.tape, hgrow.output, ?_, ?_⟩
      · simp [World.setCell] at hs2 ⊢; omega
      · intro k hk hne
        rw [setCell_other (Ne.symm hne), hgrow.block k (by simp; omega) (fun e => by have := hrow k e.symm; omega), alloc_block (by omega)]
  · have hq : (((s[i]'hi).toNat : Int) == 91) = false := by rw [hb]; simp; omega
    have H91 := Lib.hid (And.intro h91 hb); clear h91 hb
    go_enter Tryd.func22, Tryd.ntmps22
    go_wp2_with fail
    go_end0
    have hj : jumpsOf s.data.toList (done ++ [i]) = jumpsOf s.data.toList done := by
      unfold jumpsOf; rw [List.filter_append]; simp [H91.out.1]
    exact ⟨rfl, ⟨hc, ⟨v, hv, by rw [hj]; exact hown⟩, h1, h2, h3⟩, Keeps.refl _ _ _⟩

set_option maxHeartbeats 4000000 in
set_option maxRecDepth 100000 in
theorem eachJumps_any (s : ByteArray) (bc bo R : Nat) (w : World) (hI : JInv s bc bo R [] w) (hs : s.size < 5000) :
    Calls Tryd.prog 21 #[.string s, .func (.func 22) #[] #[.pointer (some ⟨bc, 0, none⟩), .pointer (some ⟨bo, 0, none⟩)]] w fun e w' =>
      e = .returned (.tuple #[]) ∧ JInv s bc bo R (begins s.data.toList) w' ∧ Keeps R bo w w' := by
  have hsl : Hid (s.data.toList.length = s.size) := rfl
  have HI := Lib.hid hI; clear hI
  go_enter Tryd.func21, Tryd.ntmps21
  go_wp2_with fail
  go_loopw [4] (fun vi wr => ∃ (i f : Nat) (done : List Nat), vi = .int .i64 i ∧ i ≤ s.size ∧ Hid (done ++ starts s.data.toList f i = begins s.data.toList ∧ s.size < f + i ∧ done.length ≤ i) ∧ Hid (JInv s bc bo R done wr) ∧ Hid (Keeps R bo w wr))
    (fun vi _ => s.size - (intOf vi).toNat)
  case atStart => exact ⟨0, s.size + 1, [], rfl, by omega, ⟨rfl, by omega, by simp⟩, HI.out, Keeps.refl _ _ _⟩
  case round =>
    obtain ⟨i, f, done, rfl, hi, hd, HJ, HK⟩ := hrel
    by_cases hlt : i < s.size
    · have hb : ((s[i]'hlt).toNat : Int) = (byteAt s.data.toList i : Int) := by
        unfold byteAt
        have hl : i < s.data.toList.length := hlt
        rw [List.getElem?_eq_getElem hl]; rfl
      have hp := pushN_range ((s[i]'hlt).toNat : Int)
      obtain ⟨hp0, hp1⟩ := hp
      have Hp := Lib.hid (push_any ((s[i]'hlt).toNat : Int) wr (by omega) (by have := (s[i]'hlt).toNat_lt; omega))
      obtain ⟨q, hq⟩ : ∃ q : Nat, pushN ((s[i]'hlt).toNat : Int) = (q : Int) := ⟨(pushN ((s[i]'hlt).toNat : Int)).toNat, by omega⟩
      have hqt : q = tail s.data.toList i := by unfold tail; rw [← hb, hq]; rfl
      rw [hq] at Hp hp0 hp1
      have Hq := Lib.hid (And.intro hqt hb); clear hqt hb hq
      go_wp2_with fail
      refine Hp.out.mono ?_
      rintro e w2 ⟨rfl, rfl⟩
      clear Hp
      have hdl : done.length < 10000 := by have := hd.out.2.2; omega
      have HF := fun d => Lib.hid (jumpsFn_any s d bc bo R i done wr HJ.out hlt hdl (by omega))
      have hstep : Hid (∀ i', i' = min (i + 1 + q) s.size → (done ++ [i]) ++ starts s.data.toList (f - 1) i' = begins s.data.toList ∧ s.size < f - 1 + i' ∧ (done ++ [i]).length ≤ i' ∧ i' ≤ s.size) := by
        intro i' hi'
        obtain ⟨g1, g2, g3⟩ := hd.out
        have hL := hsl.out
        obtain ⟨f', rfl⟩ : ∃ f', f = f' + 1 := ⟨f - 1, by omega⟩
        rw [starts, if_pos (by omega), ← Hq.out.1] at g1
        have e2 : starts s.data.toList f' i' = starts s.data.toList f' (i + 1 + q) := by rw [hi', ← hL, starts_min]
        refine ⟨?_, by omega, by simp; omega, by omega⟩
        rw [show f' + 1 - 1 = f' from by omega, e2, ← g1]; simp
      by_cases hm : i + 1 + q ≤ s.size
      · have e1 : min ((i : Int) + 1 + (q : Int)) (s.size : Int) = (i : Int) + 1 + (q : Int) := by omega
        go_wp2_with fail
        refine (HF _).out.mono ?_
        rintro e w3 ⟨rfl, hJ3, hK3⟩
        have HJ3 := Lib.hid hJ3; have HK3 := Lib.hid hK3; clear hJ3 hK3 HF
        go_wp2_with fail
        have h4 := hstep.out (i + 1 + q) (by omega)
        exact ⟨⟨i + 1 + q, f - 1, done ++ [i], by go_num, hm, ⟨h4.1, h4.2.1, h4.2.2.1⟩, HJ3, HK.out.trans HK3.out⟩, by simp [intOf]; omega⟩
      · have e1 : min ((i : Int) + 1 + (q : Int)) (s.size : Int) = (s.size : Int) := by omega
        go_wp2_with fail
        refine (HF _).out.mono ?_
        rintro e w3 ⟨rfl, hJ3, hK3⟩
        have HJ3 := Lib.hid hJ3; have HK3 := Lib.hid hK3; clear hJ3 hK3 HF
        go_wp2_with fail
        have h4 := hstep.out s.size (by omega)
        exact ⟨⟨s.size, f - 1, done ++ [i], rfl, Nat.le_refl _, ⟨h4.1, h4.2.1, h4.2.2.1⟩, HJ3, HK.out.trans HK3.out⟩, by simp [intOf]; omega⟩
    · go_wp2_with fail
      go_end0
      have hdd := hd.out
      rw [starts_past _ _ _ (by rw [hsl.out]; omega), List.append_nil] at hdd
      rw [← hdd.1]
      exact ⟨rfl, HJ.out, HK.out⟩

set_option maxHeartbeats 4000000 in
set_option maxRecDepth 100000 in
theorem jumps_any (s : ByteArray) (w : World) (hs : s.size < 5000) :
    Calls Tryd.prog 15 #[.string s] w fun e w' => ∃ v, e = .returned v ∧ w'.ownsRow w.heap.size 3 1 v (jumpsOf s.data.toList (begins s.data.toList)).length (nats (jumpsOf s.data.toList (begins s.data.toList))) ∧ Below w.heap.size w w' := by
  go_enter Tryd.func15, Tryd.ntmps15
  go_wp2_with fail
  have h2 := two_blocks w (#[.string s] : Array Value) (#[.slice none 0 0] : Array Value) 9 36
  have hI : JInv s w.heap.size (w.heap.size + 1) (w.heap.size + 2) [] ((w.alloc (.cells #[.string s] 9)).alloc (.cells #[.slice none 0 0] 36)) :=
    ⟨h2.1, ⟨_, h2.2, by simp [jumpsOf, nats], .inl ⟨rfl, rfl⟩⟩, by omega, by omega, by simp⟩
  have hb0 : Below w.heap.size w ((w.alloc (.cells #[.string s] 9)).alloc (.cells #[.slice none 0 0] 36)) := ((Below.refl _ _).alloc (Nat.le_refl _) _).alloc (by simp) _
  refine (eachJumps_any s _ _ _ _ hI hs).mono ?_
  rintro e w2 ⟨rfl, ⟨hc, ⟨v, hv, ho⟩, h3, h4, h5⟩, hK⟩
  have c1 : w2.cell? ⟨w.heap.size + 1, 0, none⟩ = some v := cell_of hv 0
  have f1 : w2.frozen? ⟨w.heap.size + 1, 0, none⟩ = false := free_of hv 0
  have Hk := Lib.hid (hb0.trans ((hK.below (by omega)).mono (Nat.le_succ _)))
  have Ho := Lib.hid ho
  have Hv := Lib.hid hv
  clear hK hb0 hI h2 ho hv hc
  obtain ⟨v', hv'⟩ : ∃ v', v' = v := ⟨_, rfl⟩
  rcases Ho.out.2 with ⟨rfl, _⟩ | ⟨g, cap, cur, rfl, hh⟩
  all_goals
    go_wp2_with fail
    refine bodyPost_ret (results_cell_one Tryd.results15 _ _ (w.heap.size + 1) _ rfl (cell_of (setCell_block Hv.out 0 _) 0) (Tryd.isAgg36 _)) rfl ⟨_, rfl, ?_, ?_⟩
    · exact ownsRow_less (ownsRow_set Ho.out (by omega)) (by omega)
    · exact Hk.out.setCell (by simp) _

set_option maxHeartbeats 4000000 in
set_option maxRecDepth 100000 in
theorem refJumps_any (s : ByteArray) (w : World) (hs : s.size < 5000) :
    Calls Tryd.prog 16 #[.string s] w fun e w' => ∃ v, e = .returned v ∧ w'.ownsRow w.heap.size 3 1 v (jumpsOf s.data.toList (begins s.data.toList)).length (nats (jumpsOf s.data.toList (begins s.data.toList))) ∧ Below w.heap.size w w' := by
  go_enter Tryd.func16, Tryd.ntmps16
  have hsl : Hid (s.data.toList.length = s.size) := rfl
  obtain ⟨i0, hi0, hz0, hz1, hz2⟩ := info_parts (show (Tryd.prog.info? 3).map (fun i => (i.zero, i.size, i.bytes)) = some (some (.int .i64 0), 1, 8) by kernel_rfl)
  go_wp2_with fail
  go_loopw [3, 4] (fun vo vi wr => ∃ (i f : Nat) (done : List Nat), vi = .int .i64 i ∧ i < s.size + 100 ∧ Hid (done ++ starts s.data.toList f i = begins s.data.toList ∧ s.size < f + i ∧ done.length ≤ i) ∧
      Hid (wr.ownsRow w.heap.size 3 1 vo (jumpsOf s.data.toList done).length (nats (jumpsOf s.data.toList done))) ∧ Hid (Below w.heap.size w wr))
    (fun _ vi _ => s.size + 100 - (intOf vi).toNat)
  case atStart => exact ⟨0, s.size + 1, [], rfl, by omega, ⟨rfl, by omega, by simp⟩, ⟨by simp [jumpsOf, nats], .inl ⟨rfl, rfl⟩⟩, Below.refl _ _⟩
  case round =>
    obtain ⟨i, f, done, rfl, hi, hd, HO, HB⟩ := hrel
    have hsw := HB.out.size
    by_cases hlt : i < s.size
    · have hb : ((s[i]'hlt).toNat : Int) = (byteAt s.data.toList i : Int) := by
        unfold byteAt
        have hl : i < s.data.toList.length := hlt
        rw [List.getElem?_eq_getElem hl]; rfl
      have hp := pushN_range ((s[i]'hlt).toNat : Int)
      obtain ⟨hp0, hp1⟩ := hp
      have Hp := fun W => Lib.hid (refPush_any ((s[i]'hlt).toNat : Int) W (by omega) (by have := (s[i]'hlt).toNat_lt; omega))
      obtain ⟨q, hq⟩ : ∃ q : Nat, pushN ((s[i]'hlt).toNat : Int) = (q : Int) := ⟨(pushN ((s[i]'hlt).toNat : Int)).toNat, by omega⟩
      have hqt : q = tail s.data.toList i := by unfold tail; rw [← hb, hq]; rfl
      rw [hq] at Hp hp0 hp1
      have Hq := Lib.hid (And.intro hqt hb); clear hqt hq
      have hstep : Hid ((done ++ [i]) ++ starts s.data.toList (f - 1) (i + q + 1) = begins s.data.toList ∧ s.size < f - 1 + (i + q + 1) ∧ (done ++ [i]).length ≤ i + q + 1) := by
        obtain ⟨g1, g2, g3⟩ := hd.out
        have hL := hsl.out
        obtain ⟨f', rfl⟩ : ∃ f', f = f' + 1 := ⟨f - 1, by omega⟩
        rw [starts, if_pos (by omega), ← Hq.out.1, show i + 1 + q = i + q + 1 from by omega] at g1
        refine ⟨?_, by omega, by simp; omega⟩
        rw [show f' + 1 - 1 = f' from by omega, ← g1]; simp
      have hdl : done.length < 10000 := by have := hd.out.2.2; omega
      have hjl : (jumpsOf s.data.toList done).length ≤ done.length := List.length_filter_le _ _
      by_cases h91 : byteAt s.data.toList i = 91
      · have hq : (((s[i]'hlt).toNat : Int) == 91) = true := by rw [hb, h91]; rfl
        have hj : Hid (jumpsOf s.data.toList (done ++ [i]) = jumpsOf s.data.toList done ++ [i]) := by
          show _ = _
          unfold jumpsOf; rw [List.filter_append]; simp [h91]
        clear h91 hb
        go_wp2_with (at_builtin; refine wpList_append_own _ rfl _ _ 36 rfl w.heap.size 3 i0 (.int .i64 0) 1 8 Tryd.underlying36 hi0 hz0 hz1 hz2 rfl (by decide) _ _ _ rfl (HO.out.alloc _) ⟨wr.heap.size, 0, none⟩ 1 1 [.int .i64 (i : Int)] rfl rfl (cell_one_new _ _ _) (one_cell_int _ _) (by unfold maxLen; omega) (by omega) (by simp; omega) ?_)
        intro v' w2 hown' hgrow _
        have HO2 := Lib.hid hown'
        have HB2 := Lib.hid (below_grown_own (HB.out.alloc hsw _) (HO.out.alloc _) hgrow (by simp; omega))
        clear hown' hgrow
        go_wp2_with fail
        refine (Hp _).out.mono ?_
        rintro e w3 ⟨rfl, rfl⟩
        clear Hp
        go_wp2_with fail
        refine ⟨⟨i + q + 1, f - 1, done ++ [i], by go_num, by omega, hstep, ?_, HB2⟩, by simp [intOf]; omega⟩
        show World.ownsRow _ _ _ _ _ _ _
        rw [hj.out, nats_snoc, List.length_append]
        exact HO2.out
      · have hq : (((s[i]'hlt).toNat : Int) == 91) = false := by rw [hb]; simp; omega
        have hj : Hid (jumpsOf s.data.toList (done ++ [i]) = jumpsOf s.data.toList done) := by
          show _ = _
          unfold jumpsOf; rw [List.filter_append]; simp [h91]
        clear h91 hb
        go_wp2_with fail
        refine (Hp _).out.mono ?_
        rintro e w3 ⟨rfl, rfl⟩
        clear Hp
        go_wp2_with fail
        refine ⟨⟨i + q + 1, f - 1, done ++ [i], by go_num, by omega, hstep, ?_, HB⟩, by simp [intOf]; omega⟩
        show World.ownsRow _ _ _ _ _ _ _
        rw [hj.out]
        exact HO.out
    · go_wp2_with fail
      go_ret
      have hdd := hd.out
      rw [starts_past _ _ _ (by rw [hsl.out]; omega), List.append_nil] at hdd
      have ho := HO.out
      rw [hdd.1] at ho
      exact ⟨_, rfl, ho, HB.out⟩
end Go.Proofs.YtnachjhhbhhpoaaDoor
