/-
  OpJumps: the walk.
-/
import Derived.Test.YtnachjhhbhhpoaaDoorOpQ
import Derived.Test.YtnachjhhbhhpoaaDoorOpS
import Derived.Deep.OwnRows
import Derived.Laws.BytesArg
namespace Go.Proofs.YtnachjhhbhhpoaaDoor
open Go.RowKit Go.Shelf
/-- The bytes that are pushed: data's, then 0x5b. -/
def padb (l : List UInt8) (k : Nat) : List UInt8 := (List.range k).map fun j => l.getD j 91
theorem padb_length (l : List UInt8) (k : Nat) : (padb l k).length = k := by simp [padb]
/-- The cells behind i rounds. -/
def fillC (l : List UInt8) (k i : Nat) : Array Value := ((List.range k).map fun j => if j < i then Value.int .u8 ((l.getD j 91).toNat : Int) else .int .u8 0).toArray
theorem fillC_size (l : List UInt8) (k i : Nat) : (fillC l k i).size = k := by simp [fillC]
theorem fillC_get (l : List UInt8) (k i j : Nat) (h : j < k) : (fillC l k i)[j]? = some (if j < i then Value.int .u8 ((l.getD j 91).toNat : Int) else .int .u8 0) := by
  unfold fillC; simp [h]
theorem fillC_set (l : List UInt8) (k i : Nat) (h : i < k) : (fillC l k i).setIfInBounds i (.int .u8 ((l.getD i 91).toNat : Int)) = fillC l k (i + 1) := by
  apply Array.ext
  · simp [fillC_size]
  · intro j h1 h2
    simp only [Array.size_setIfInBounds, fillC_size] at h1
    apply Option.some.inj
    rw [← Array.getElem?_eq_getElem, ← Array.getElem?_eq_getElem, fillC_get _ _ _ _ h1, Array.getElem?_setIfInBounds, fillC_size]
    by_cases e : i = j
    · subst e; simp [h]
    · rw [if_neg e, fillC_get _ _ _ _ h1]
      congr 1
      by_cases hj : j < i
      · rw [if_pos hj, if_pos (by omega)]
      · rw [if_neg hj, if_neg (by omega)]
theorem fillC_start (l : List UInt8) (k : Nat) : madeCells #[Value.int .u8 0] k = fillC l k 0 := by
  apply Array.ext
  · rw [fillC_size]; simp [madeCells]
  · intro j h1 h2
    rw [fillC_size] at h2
    apply Option.some.inj
    rw [← Array.getElem?_eq_getElem, ← Array.getElem?_eq_getElem, fillC_get _ _ _ _ h2]
    simp [madeCells, h2, Nat.mod_one]
theorem set_twice (C : Array Value) (i : Nat) (u v : Value) : (C.setIfInBounds i u).setIfInBounds i v = C.setIfInBounds i v := by
  apply Array.ext
  · simp
  · intro j h1 h2
    apply Option.some.inj
    rw [← Array.getElem?_eq_getElem, ← Array.getElem?_eq_getElem]
    simp only [Array.getElem?_setIfInBounds, Array.size_setIfInBounds]
    split <;> rfl
set_option maxHeartbeats 8000000 in
set_option maxRecDepth 100000 in
theorem opJumps_any (n : Nat) (data more : ByteArray) (m : Int) (w : World) (hn : n < 256) (hm : w.cell? ⟨2, 0, none⟩ = some (.int .i64 m)) :
    Calls Tryd.prog 6 #[.int .u8 (n : Int), .string data, .string more] w fun e w' => e = .returned (.bool true) ∧ Below w.heap.size w w' := by
  have hms := cell_lt hm
  have Hm := Lib.hid hm; clear hm
  have hmk := run_make_row' (P := Tryd.prog) 42 5 (.int .u8 0) 1 Tryd.underlying42 (by kernel_rfl) rfl .i64 .i64 (n % 33) (by omega) (by omega)
  obtain ⟨k, hk⟩ : ∃ k, k = n % 33 := ⟨_, rfl⟩
  have hk33 : k < 33 := by omega
  have hkr : (n : Int) % 33 = (k : Int) := by rw [hk]; omega
  rw [← hk] at hmk
  have Hk := Lib.hid hk; clear hk
  go_enter Tryd.func6, Tryd.ntmps6
  go_wp2_with fail
  refine (examples_any m _ Hm.out).mono ?_
  rintro e w1 ⟨rfl, hb1⟩
  have hs1 := hb1.size
  have HB1 := Lib.hid hb1; clear hb1
  go_wp2_with fail
  obtain ⟨b, hb⟩ : ∃ b, b = w1.heap.size := ⟨_, rfl⟩
  have hst : Hid ((w1.alloc (.cells (madeCells #[Value.int .u8 0] k) 5)).heap[b]? = some (.cells (fillC data.data.toList k 0) 5 (0, 0)) ∧ Below w.heap.size w (w1.alloc (.cells (madeCells #[Value.int .u8 0] k) 5)) ∧ (w1.alloc (.cells (madeCells #[Value.int .u8 0] k) 5)).heap.size = b + 1) := by
    refine ⟨?_, HB1.out.alloc (by omega) _, by rw [hb]; simp⟩
    rw [fillC_start data.data.toList, hb]; exact Array.getElem?_push_size
  rw [← hb] at hs1
  rw [← hb]
  clear hb
  have hdl : Hid (data.data.toList.length = data.size) := rfl
  go_loopw [10] (fun vi wr => ∃ i : Nat, vi = .int .i64 i ∧ i ≤ k ∧ b < wr.heap.size ∧ Hid (wr.heap[b]? = some (.cells (fillC data.data.toList k i) 5 (0, 0)) ∧ Below w.heap.size w wr)) (fun vi _ => k - (intOf vi).toNat)
  case atStart => exact ⟨0, rfl, by omega, by rw [hst.out.2.2]; omega, hst.out.1, hst.out.2.1⟩
  case round =>
    obtain ⟨i, rfl, hi, hbw, HI⟩ := hrel
    by_cases hlt : i < k
    · have c0 : wr.cell? ⟨b, i, none⟩ = some (.int .u8 0) := by rw [cell_of HI.out.1 i, fillC_get _ _ _ _ hlt, if_neg (by omega)]
      have f0 : wr.frozen? ⟨b, i, none⟩ = false := free_of HI.out.1 i
      by_cases hdi : i < data.size
      · have hsk : Hid (((data[i]'hdi).toNat : Int) = ((data.data.toList.getD i 91).toNat : Int)) := by
          have hl : i < data.data.toList.length := hdi
          show _ = _
          rw [List.getD_eq_getElem?_getD, List.getElem?_eq_getElem hl]; rfl
        have hn : Hid (∀ W : World, W.heap[b]? = some (.cells (fillC data.data.toList k i) 5 (0, 0)) → ((W.setCell ⟨b, i, none⟩ (.int .u8 91)).setCell ⟨b, i, none⟩ (.int .u8 ((data[i]'hdi).toNat : Int))).heap[b]? = some (.cells (fillC data.data.toList k (i + 1)) 5 (0, 0))) := by
          intro W hW
          rw [setCell_block (setCell_block hW i _) i _, set_twice, hsk.out, fillC_set _ _ _ hlt]
        go_wp2_with fail
        refine ⟨⟨i + 1, by go_num, by omega, by simp; omega, hn.out _ HI.out.1, (HI.out.2.setCell (by simp; omega) _).setCell (by simp; omega) _⟩, by simp [intOf]; omega⟩
      · have hn : Hid (∀ W : World, W.heap[b]? = some (.cells (fillC data.data.toList k i) 5 (0, 0)) → (W.setCell ⟨b, i, none⟩ (.int .u8 91)).heap[b]? = some (.cells (fillC data.data.toList k (i + 1)) 5 (0, 0))) := by
          intro W hW
          have h91 : data.data.toList.getD i 91 = 91 := by
            rw [List.getD_eq_getElem?_getD, List.getElem?_eq_none (by rw [hdl.out]; omega)]; rfl
          have := fillC_set data.data.toList k i hlt
          rw [h91] at this
          rw [setCell_block hW i _, ← this]; rfl
        go_wp2_with fail
        refine ⟨⟨i + 1, by go_num, by omega, by simp; omega, hn.out _ HI.out.1, HI.out.2.setCell (by simp; omega) _⟩, by simp [intOf]; omega⟩
    · have hik : i = k := by omega
      subst hik
      have hcb : ∀ v, (convert 42 9 (.slice (some ⟨b, 0, none⟩) i i)).run Tryd.prog (wr.alloc (.cells #[v] 5)) = .ok (.string ⟨(padb data.data.toList i).toArray⟩) (wr.alloc (.cells #[v] 5)) := by
        intro v
        have h := run_convert_bytes_arg (P := Tryd.prog) (wr.alloc (.cells #[v] 5)) 42 5 Tryd.underlying42 Tryd.underlying5 b 0 i i ((padb data.data.toList i).map fun c => (c.toNat : Int)) (by simp [padb]) (fun j hj => ?_) 9 Tryd.underlying9
        · rw [h]
          congr 2
          rw [strOfNums_str, List.map_map]
          unfold str
          rw [show (fun n : Int => UInt8.ofNat n.toNat) ∘ (fun c : UInt8 => (c.toNat : Int)) = id from by funext c; simp]
          simp
        · have hj' : j < i := by simpa [padb] using hj
          rw [Nat.zero_add]
          rw [World.cell?_alloc_past _ _ _ hbw, cell_of HI.out.1 j, fillC_get _ _ _ _ hj', if_pos hj']
          congr 2
          simp [padb, List.getD_eq_getElem?_getD, hj']
      have hc1 : (convert 42 9 (.slice (some ⟨wr.heap.size, 0, none⟩) 1 1)).run Tryd.prog (wr.alloc (.cells #[.int .u8 (95 + (i : Int))] 5)) = .ok (.string ⟨#[UInt8.ofNat (95 + i)]⟩) (wr.alloc (.cells #[.int .u8 (95 + (i : Int))] 5)) := by
        have h := run_convert_newest (P := Tryd.prog) wr 42 9 5 5 Tryd.underlying42 Tryd.underlying5 Tryd.underlying9 [95 + (i : Int)] 1 1 rfl
        exact h
      obtain ⟨PB, hPB⟩ : ∃ PB : ByteArray, PB = ⟨(padb data.data.toList i).toArray⟩ := ⟨_, rfl⟩
      have hPz : PB.size = i := by rw [hPB]; show (padb data.data.toList i).toArray.size = i; rw [List.size_toArray, padb_length]
      rw [← hPB] at hcb
      have HPB := Lib.hid hPB; clear hPB
      obtain ⟨P1, hP1⟩ : ∃ P1 : ByteArray, P1 = ⟨#[UInt8.ofNat (95 + i)]⟩ := ⟨_, rfl⟩
      have hP1z : P1.size = 1 := by rw [hP1]; rfl
      rw [← hP1] at hc1
      have HP1 := Lib.hid hP1; clear hP1
      have HW : Hid (Below w.heap.size w (wr.alloc (.cells #[.int .u8 (95 + (i : Int))] 5))) := HI.out.2.alloc (by omega) _
      have hWz : Hid ((wr.alloc (.cells #[.int .u8 (95 + (i : Int))] 5)).heap.size = wr.heap.size + 1) := by show _ = _; simp
      clear hst HB1 HI
      go_wp2_with fail
      obtain ⟨W, hWe⟩ : ∃ W, W = wr.alloc (.cells #[.int .u8 (95 + (i : Int))] 5) := ⟨_, rfl⟩
      rw [← hWe] at HW hWz
      rw [← hWe]
      clear hWe hcb hc1
      obtain ⟨t, ht⟩ : ∃ t, t = more.extract 0 (min (more.size : Int) 100).toNat := ⟨_, rfl⟩
      have htz : t.size ≤ 100 := by rw [ht, ByteArray.size_extract]; omega
      rw [← ht]
      clear ht
      have hSz : (P1 ++ PB ++ t).size < 5000 := by rw [ByteArray.size_append, ByteArray.size_append]; omega
      have hSl : (P1 ++ PB ++ t).data.toList = UInt8.ofNat (95 + i) :: padb data.data.toList i ++ t.data.toList := by
        rw [HP1.out, HPB.out]; simp
      have hJ := jumps_one (UInt8.ofNat (95 + i)) (padb data.data.toList i) t.data.toList (by
        rw [padb_length, UInt8.toNat_ofNat_of_lt' (show 95 + i < 256 by omega), pushN_yes (by omega) (by omega)]; omega) (by rw [UInt8.toNat_ofNat_of_lt' (show 95 + i < 256 by omega)]; omega)
      rw [padb_length] at hJ
      refine (jumps_any (P1 ++ PB ++ t) W hSz).mono ?_
      rintro e w2 ⟨va, rfl, ha, hb2⟩
      rw [hSl, hJ] at ha
      clear hSl hJ hSz
      have hs2 := hb2.size
      have hla := own_len ha
      obtain ⟨pa, ca, rfl, hca, ga⟩ := own_slice ha
      have Ga := Lib.hid ga; clear ga ha
      have HB2 := Lib.hid (HW.out.trans (hb2.mono (by have := HW.out.size; omega)))
      clear hb2
      go_wp2_with fail
      refine (jumps_any t w2 (by omega)).mono ?_
      rintro e w3 ⟨vb, rfl, hb', hb3⟩
      have hs3 := hb3.size
      obtain ⟨pb, cb, rfl, hcb, gb⟩ := own_slice hb'
      have Gb := Lib.hid gb; clear gb hb'
      have hja := fun q => jump_at (l := t.data.toList) (i := q)
      obtain ⟨J, hJ⟩ : ∃ J, J = jumpsOf t.data.toList (begins t.data.toList) := ⟨_, rfl⟩
      rw [← hJ] at hla hca Ga hcb Gb hja
      rw [← hJ]
      rw [List.length_map] at hla hca Ga
      have HJ := Lib.hid hja; clear hja hJ
      have HB3 := Lib.hid (HB2.out.trans (hb3.mono (by have := HB2.out.size; omega)))
      have hFa : Hid (∀ q (h : q < J.length) (W' : World), Below w3.heap.size w3 W' → ∃ g, pa = some ⟨g, 0, none⟩ ∧ W'.cell? ⟨g, q, none⟩ = some (.int .i64 (((J[q]'h : Nat) : Int) + 1 + (i : Int)))) := by
        intro q h W' hw
        obtain ⟨g, e, _, hlt, hx⟩ := Ga.out (by omega)
        refine ⟨g, e, ?_⟩
        rw [hw.cell (p := ⟨g, q, none⟩) (by simp; omega), hb3.cell (p := ⟨g, q, none⟩) hlt]
        have := hx q _ (nats_get (p := J.map (· + (i + 1))) (i := q) (by rw [List.length_map]; exact h))
        rw [this, List.getElem_map]
        congr 2
        omega
      have hFb : Hid (∀ q (h : q < J.length) (W' : World), Below w3.heap.size w3 W' → ∃ g, pb = some ⟨g, 0, none⟩ ∧ W'.cell? ⟨g, q, none⟩ = some (.int .i64 ((J[q]'h : Nat) : Int))) := by
        intro q h W' hw
        obtain ⟨g, e, _, hlt, hx⟩ := Gb.out (by omega)
        refine ⟨g, e, ?_⟩
        rw [hw.cell (p := ⟨g, q, none⟩) (by simp; omega)]
        exact hx _ _ (nats_get h)
      have hFt : Hid (∀ q (h : q < J.length), ∃ j : Nat, J[q]'h = j ∧ ∃ h' : j < t.size, ((t[j]'h').toNat : Int) = 91) := by
        intro q h
        obtain ⟨h1, h2⟩ := HJ.out q h
        refine ⟨_, rfl, h1, ?_⟩
        have h1' : J[q]'h < t.data.toList.length := h1
        unfold byteAt at h2
        rw [List.getElem?_eq_getElem h1'] at h2
        exact congrArg Int.ofNat h2
      clear Ga Gb hb3 HB2 HW hWz HPB HP1 HJ
      go_wp2_with fail
      go_loopw [13] (fun vi wr => ∃ q : Nat, vi = .int .i64 q ∧ q ≤ J.length ∧ Hid (Below w3.heap.size w3 wr)) (fun vi _ => J.length - (intOf vi).toNat)
      case atStart => exact ⟨0, rfl, by omega, Below.refl _ _⟩
      case round =>
        obtain ⟨q, rfl, hq, HQ⟩ := hrel
        by_cases hlq : q < J.length
        · obtain ⟨g, rfl, x0⟩ := hFa.out q hlq _ HQ.out
          obtain ⟨g', rfl, y0⟩ := hFb.out q hlq _ HQ.out
          obtain ⟨j, hj, j1, j2⟩ := hFt.out q hlq
          rw [hj] at x0 y0
          clear hj
          go_wp2_with fail
          go_quiet (fail)
          go_wp2_with fail
          exact ⟨⟨q + 1, by go_num, by omega, below_drawn HQ.out _⟩, by simp [intOf]; omega⟩
        · go_wp2_with fail
          go_ret
          exact ⟨rfl, HB3.out.trans (HQ.out.mono (by have := HB3.out.size; omega))⟩
end Go.Proofs.YtnachjhhbhhpoaaDoor
