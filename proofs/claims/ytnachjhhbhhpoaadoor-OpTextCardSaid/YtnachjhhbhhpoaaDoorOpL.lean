/-
  op.Text: the instructions told.
-/
import Derived.Test.YtnachjhhbhhpoaaDoorOpK
import Derived.RegionTactic
import Derived.BigRegion
namespace Go.Proofs.YtnachjhhbhhpoaaDoor
open Go.RowKit Go.Shelf
/-- A code's name, or its sixteenths. -/
def nameAt (l : List UInt8) (i : Nat) : List UInt8 := if known (byteAt l i) then (infOf (byteAt l i)).name else [63] ++ hexOf [l[i]?.getD 0]
/-- An instruction told, with the bytes that it takes with it. -/
def tell (l : List UInt8) (i : Nat) (d : List UInt8) : List UInt8 := nameAt l i ++ if 0 < tail l i then [32, 48, 120] ++ hexOf d else []
/-- The bytes that an instruction takes with it. -/
def dataAt (l : List UInt8) (i : Nat) : List UInt8 := (l.drop (i + 1)).take (tail l i)
/-- All of some places told. -/
def textOf (l : List UInt8) (p : List Nat) : List (List UInt8) := p.map fun i => tell l i (dataAt l i)
/-- Texts as cells. -/
def strs' (p : List (List UInt8)) : List Value := p.map fun t => .string ⟨t.toArray⟩
theorem strs'_snoc (p : List (List UInt8)) (t : List UInt8) : strs' (p ++ [t]) = strs' p ++ [.string ⟨t.toArray⟩] := by simp [strs']
theorem strs'_length (p : List (List UInt8)) : (strs' p).length = p.length := by simp [strs']
theorem name_short : ∀ x, x ∈ Opx.T → x.2.name.length ≤ 20 := by decide +kernel
theorem infOf_short (c : Nat) : (infOf c).name.length ≤ 20 := by
  unfold infOf Opx.look
  cases h : Opx.T.find? (fun x => x.1 == c) with
  | none => simp
  | some x => exact name_short x (List.mem_of_find?_eq_some h)

/-- What op.Text's variables hold behind some instructions. -/
structure TInv (s : ByteArray) (bm bv bc bo R : Nat) (done : List Nat) (w : World) : Prop where
  map : MapIs KB w bm (tabF Opx.T)
  var : w.heap[bv]? = some (.cells #[.map (some bm)] 48 (0, 0))
  code : w.heap[bc]? = some (.cells #[.string s] 9 (0, 0))
  out : ∃ v, w.heap[bo]? = some (.cells #[v] 38 (0, 0)) ∧ w.ownsRow R 9 1 v done.length (strs' (textOf s.data.toList done))
  lt : bm < R ∧ bv < R ∧ bc < R ∧ bo < R ∧ R ≤ w.heap.size ∧ bo ≠ bm ∧ bo ≠ bv ∧ bo ≠ bc

theorem TInv.below {s : ByteArray} {bm bv bc bo R : Nat} {done : List Nat} {w w' : World} (h : TInv s bm bv bc bo R done w) (hb : Below w.heap.size w w') : TInv s bm bv bc bo R done w' := by
  obtain ⟨hmap, hvar, hc, ⟨v, hv, hown⟩, g1, g2, g3, g4, g5, g6⟩ := h
  have hs := hb.size
  exact ⟨hmap.below hb hmap.lt, by rw [hb.block _ (by omega)]; exact hvar, by rw [hb.block _ (by omega)]; exact hc, ⟨v, by rw [hb.block _ (by omega)]; exact hv, ownsRow_below hown hb (Nat.le_refl _)⟩, g1, g2, g3, g4, by omega, g6⟩

theorem one_cell_str (s : ByteArray) : ∀ u ∈ [Value.string s], u.oneCell' = true := by
  intro u hu; simp at hu; subst hu; rfl
/-- Behind an append onto an own row: a variable of the call's own stands as it stood. -/
theorem behind_append {a b : World} {o : Obj} {bo R e n : Nat} {t : TypeId} {v : Value} {xs : List Value} (hv : a.heap[bo]? = some (.cells #[v] t (0, 0))) (ho : a.ownsRow R e 1 v n xs) (hg : (a.alloc o).grownBy b v.ownBlock) (hb : bo < R) (hR : R ≤ a.heap.size) :
    b.heap[bo]? = some (.cells #[v] t (0, 0)) ∧ b.cell? ⟨bo, 0, none⟩ = some v ∧ b.frozen? ⟨bo, 0, none⟩ = false ∧ ∀ k, v.ownBlock = some k → R ≤ k := by
  have hrow : ∀ k, v.ownBlock = some k → R ≤ k := fun k hk => (ho.lt k hk).1
  have h2 : b.heap[bo]? = some (.cells #[v] t (0, 0)) := by
    rw [hg.block bo (by simp; omega) (fun e => by have := hrow bo e.symm; omega), alloc_block (by omega)]
    exact hv
  exact ⟨h2, cell_of h2 0, free_of h2 0, hrow⟩
theorem text_shut {s : ByteArray} {bm bv bc bo R i : Nat} {done : List Nat} {w W b : World} {o : Obj} {v u : Value} (hT : TInv s bm bv bc bo R done W) (hW : Below w.heap.size w W) (hR : R ≤ w.heap.size)
    (hb : b.heap[bo]? = some (.cells #[v] 38 (0, 0))) (ho : b.ownsRow R 9 1 u (done.length + 1) (strs' (textOf s.data.toList done) ++ [.string ⟨(tell s.data.toList i (dataAt s.data.toList i)).toArray⟩]))
    (hg : (W.alloc o).grownBy b v.ownBlock) (hrow : ∀ k, v.ownBlock = some k → R ≤ k) (_h : True) :
    Ending.returned (.tuple #[]) = .returned (.tuple #[]) ∧ TInv s bm bv bc bo R (done ++ [i]) (b.setCell ⟨bo, 0, none⟩ u) ∧ Keeps R bo w (b.setCell ⟨bo, 0, none⟩ u) := by
  obtain ⟨hmap, hvar, hc, _, g1, g2, g3, g4, g5, g6, g7, g8⟩ := hT
  have hs := hg.size
  simp at hs
  have hk : ∀ k, k < R → k ≠ bo → (b.setCell ⟨bo, 0, none⟩ u).heap[k]? = W.heap[k]? := by
    intro k hk hne
    rw [setCell_other (Ne.symm hne), hg.block k (by simp; omega) (fun e => by have := hrow k e.symm; omega), alloc_block (by omega)]
  refine ⟨rfl, ⟨hmap.of_block (hk _ g1 (Ne.symm g6)), by rw [hk _ g2 (Ne.symm g7)]; exact hvar, by rw [hk _ g3 (Ne.symm g8)]; exact hc, ⟨u, setCell_block hb 0 _, ?_⟩, g1, g2, g3, g4, by simp [World.setCell]; omega, g6, g7, g8⟩, ?_⟩
  · have e1 : textOf s.data.toList (done ++ [i]) = textOf s.data.toList done ++ [tell s.data.toList i (dataAt s.data.toList i)] := by simp [textOf]
    rw [e1, strs'_snoc, List.length_append]
    exact ownsRow_set ho g4
  · refine ⟨hg.os.trans hW.os, hg.tape.trans hW.tape, hg.output.trans hW.output, ?_, ?_⟩
    · have := hW.size; simp [World.setCell]; omega
    · intro k h1 h2
      rw [hk k h1 h2]; exact hW.block k (by omega)

theorem size_of_data {s t : ByteArray} {i : Nat} (h : t.data.toList = dataAt s.data.toList i) (ht : tail s.data.toList i ≤ 32) : t.size ≤ 32 := by
  have e : t.size = t.data.toList.length := rfl
  rw [e, h, dataAt, List.length_take]; omega

set_option maxHeartbeats 4000000 in
set_option maxRecDepth 100000 in
theorem textFn_any (s d : ByteArray) (bm bv bc bo R i : Nat) (done : List Nat) (w : World) (hI : TInv s bm bv bc bo R done w) (hi : i < s.size) (hn : done.length < 10000) (hs : s.size < 10000) (hd : d.size ≤ 32) (hdd : d.data.toList = dataAt s.data.toList i) :
    Calls Tryd.prog 23 #[.int .i64 (i : Int), .string d, .pointer (some ⟨bv, 0, none⟩), .pointer (some ⟨bc, 0, none⟩), .pointer (some ⟨bo, 0, none⟩)] w fun e w' =>
      e = .returned (.tuple #[]) ∧ TInv s bm bv bc bo R (done ++ [i]) w' ∧ Keeps R bo w w' := by
  obtain ⟨hmap, hvar, hc, ⟨v, hv, hown⟩, g1, g2, g3, g4, g5, g6, g7, g8⟩ := hI
  obtain ⟨i0, hi0, hz0, hz1, hz2⟩ := info_parts (show (Tryd.prog.info? 9).map (fun i => (i.zero, i.size, i.bytes)) = some (some (.string ByteArray.empty), 1, 16) by kernel_rfl)
  have hb : ((s[i]'hi).toNat : Int) = (byteAt s.data.toList i : Int) := by
    unfold byteAt
    have hl : i < s.data.toList.length := hi
    rw [List.getElem?_eq_getElem hl]; rfl
  have c0 : w.cell? ⟨bv, 0, none⟩ = some (.map (some bm)) := cell_of hvar 0
  have c1 : w.cell? ⟨bc, 0, none⟩ = some (.string s) := cell_of hc 0
  obtain ⟨x, hx⟩ : ∃ x, x = infOf (byteAt s.data.toList i) := ⟨_, rfl⟩
  obtain ⟨ok, hok⟩ : ∃ ok, ok = known (byteAt s.data.toList i) := ⟨_, rfl⟩
  have hl0 : ∀ W : World, W.heap[bm]? = w.heap[bm]? → (Instr.lookup 48 (.map (some bm)) (.int .u8 ((s[i]'hi).toNat : Int)) true).run Tryd.prog W =
      .ok (.tuple #[.agg #[.string ⟨x.name.toArray⟩, .int .u64 (x.gas : Int), .int .i64 (x.inn : Int), .int .i64 (x.out : Int)], .bool ok]) W := by
    intro W hW
    have := (hmap.of_block hW).look (P := Tryd.prog) koB Tryd.underlying48 (kb ((s[i]'hi).toNat : Int)) zinf (zero_inf W) true
    rw [this, hb, infv_infOf, isSome_known, ← hx, ← hok]; rfl
  have hl1 := hl0 w.drew rfl
  have hl2 := fun o => hl0 (w.alloc o).drew (alloc_block hmap.lt o)
  clear hl0
  have H := Lib.hid (And.intro hmap (And.intro hvar (And.intro hc (And.intro hv (And.intro hb (And.intro hx hok))))))
  clear hmap hvar hc hv hb hx hok
  have hxl : x.name.length ≤ 20 := by rw [H.out.2.2.2.2.2.1]; exact infOf_short _
  have z1 : bv < w.heap.size := by omega
  have z2 : bc < w.heap.size := by omega
  have z3 : bo < w.heap.size := by omega
  have q0 : (0 : Int) ≤ (i : Int) := by omega
  have q1 : (i : Int) < (s.size : Int) := by omega
  go_enter Tryd.func23, Tryd.ntmps23
  go_wp2_with fail
  go_region
  have hbW : Below w.heap.size w ((w.alloc (.cells #[.string { data := x.name.toArray }, .int .u64 (x.gas : Int), .int .i64 (x.inn : Int), .int .i64 (x.out : Int)] 25)).drew) := ((Below.refl _ _).alloc (Nat.le_refl _) _).drew
  have hcW : ((w.alloc (.cells #[.string { data := x.name.toArray }, .int .u64 (x.gas : Int), .int .i64 (x.inn : Int), .int .i64 (x.out : Int)] 25)).drew).cell? ⟨w.heap.size, 0, none⟩ = some (.string { data := x.name.toArray }) := cell_of (Go.MapKept.heap_alloc w _).1 0
  have hzW : w.heap.size < ((w.alloc (.cells #[.string { data := x.name.toArray }, .int .u64 (x.gas : Int), .int .i64 (x.inn : Int), .int .i64 (x.out : Int)] 25)).drew).heap.size := by
    show w.heap.size < (w.alloc _).heap.size
    simp
  generalize (w.alloc (.cells #[.string { data := x.name.toArray }, .int .u64 (x.gas : Int), .int .i64 (x.inn : Int), .int .i64 (x.out : Int)] 25)).drew = W at hbW hcW hzW ⊢
  have hT := Lib.hid (TInv.below ⟨H.out.1, H.out.2.1, H.out.2.2.1, ⟨v, H.out.2.2.2.1, hown⟩, g1, g2, g3, g4, g5, g6, g7, g8⟩ hbW)
  have HW := Lib.hid hbW
  have hR : R < W.heap.size := by omega
  have c1' : W.cell? ⟨bc, 0, none⟩ = some (.string s) := cell_of hT.out.code 0
  have hown' := Lib.hid hown
  clear hl1 hl2 hbW c0 c1 hown
  have hp := pushN_range ((s[i]'hi).toNat : Int)
  obtain ⟨hp0, hp1⟩ := hp
  have Hp := fun W => Lib.hid (push_any ((s[i]'hi).toNat : Int) W (by omega) (by have := (s[i]'hi).toNat_lt; omega))
  obtain ⟨q, hq⟩ : ∃ q : Nat, pushN ((s[i]'hi).toNat : Int) = (q : Int) := ⟨(pushN ((s[i]'hi).toNat : Int)).toNat, by omega⟩
  have hqt : q = tail s.data.toList i := by unfold tail; rw [← H.out.2.2.2.2.1, hq]; rfl
  rw [hq] at Hp hp0 hp1
  have Hq := Lib.hid hqt; clear hqt hq
  cases ok
  · -- no code
    have hx1 : (s.extract i (i + 1)).data.toList = [s.data.toList[i]?.getD 0] := by
      rw [Lib.extract_data]
      have hl : i < s.data.toList.length := hi
      rw [List.getElem?_eq_getElem hl, show i + 1 - i = 1 from by omega, List.drop_eq_getElem_cons hl]; rfl
    have hs1 : (s.extract i (i + 1)).size ≤ 1000 := by
      show (s.extract i (i + 1)).data.toList.length ≤ 1000
      rw [hx1]; simp
    have Hx := fun W => Lib.hid (hex_any (s.extract i (i + 1)) W hs1)
    rw [hx1] at Hx
    have hx2 : (hexOf [s.data.toList[i]?.getD 0]).length ≤ 2 := by rw [hexOf_length]; simp
    have hnm : Hid (nameAt s.data.toList i = [63] ++ hexOf [s.data.toList[i]?.getD 0]) := by
      show _ = _
      unfold nameAt; rw [← H.out.2.2.2.2.2.2]; simp
    generalize hexOf [s.data.toList[i]?.getD 0] = hx at Hx hx2 hnm
    clear hx1 hs1
    go_wp2_with fail
    refine (Hx _).out.mono ?_
    rintro e W2 ⟨rfl, hb2⟩
    have hT2 := Lib.hid (hT.out.below (hb2.mono (Nat.le_refl _)))
    have HW2 := Lib.hid (HW.out.trans (hb2.mono (by omega)))
    have hR2 : R < W2.heap.size := by have := hb2.size; omega
    have hzW2 : w.heap.size < W2.heap.size := by have := hb2.size; omega
    have c1'' : W2.cell? ⟨bc, 0, none⟩ = some (.string s) := cell_of hT2.out.code 0
    clear Hx hb2 hT HW
    go_wp2_with fail
    refine (Hp _).out.mono ?_
    rintro e W3 ⟨rfl, rfl⟩
    clear Hp
    by_cases h0 : 0 < q
    · have hhd := fun W => Lib.hid (hex_any d W (by omega))
      have hdl : (hexOf d.data.toList).length ≤ 64 := by rw [hexOf_length]; have : d.data.toList.length = d.size := rfl; omega
      have htl : Hid (tell s.data.toList i (dataAt s.data.toList i) = nameAt s.data.toList i ++ ([32, 48, 120] ++ hexOf d.data.toList)) := by
        show _ = _
        unfold tell; rw [if_pos (by rw [← Hq.out]; exact h0), hdd]
      generalize hexOf d.data.toList = hd2 at hhd hdl htl
      go_wp2_with fail
      refine (hhd _).out.mono ?_
      rintro e W4 ⟨rfl, hb4⟩
      have hT4 := Lib.hid (hT2.out.below (hb4.mono (Nat.le_refl _)))
      have HW4 := Lib.hid (HW2.out.trans (hb4.mono (by omega)))
      have hR4 : R < W4.heap.size := by have := hb4.size; omega
      have hzW4 : w.heap.size < W4.heap.size := by have := hb4.size; omega
      clear hhd hb4 hT2 HW2
      obtain ⟨v4, hv4, ho4⟩ := hT4.out.out
      have d4 : W4.cell? ⟨bo, 0, none⟩ = some v4 := cell_of hv4 0
      have Ho4 := Lib.hid ho4; have Hv4 := Lib.hid hv4; clear ho4 hv4
      have hlen4 : done.length < 10000 := hn
      have h38 := hi0
      go_wp2_with (at_builtin; refine wpList_append_own _ rfl _ _ 38 rfl R 9 i0 (.string ByteArray.empty) 1 16 Tryd.underlying38 hi0 hz0 hz1 hz2 rfl (by decide) _ _ _ rfl (Ho4.out.alloc _) ⟨W4.heap.size, 0, none⟩ 1 1 [.string _] rfl rfl (cell_one_new _ _ _) (one_cell_str _) (by unfold maxLen; omega) (by omega) (by simp; omega) ?_)
      intro v' w2 hown2 hgrow _
      obtain ⟨hb2, hd1, hf1, hrow⟩ := behind_append Hv4.out Ho4.out hgrow (by omega) (by omega)
      have htv : (({ data := #[63] } ++ { data := hx.toArray } ++ ({ data := #[32, 48, 120] } ++ { data := hd2.toArray })) : ByteArray) = (⟨(tell s.data.toList i (dataAt s.data.toList i)).toArray⟩ : ByteArray) := by
        rw [htl.out, hnm.out]
        try (apply ByteArray.ext; simp)
      rw [htv] at hown2
      have HO := Lib.hid hown2; have HG := Lib.hid hgrow; have Hb := Lib.hid hb2; have Hrow := Lib.hid hrow
      clear htv hown2 hgrow hb2 hrow
      obtain ⟨g, cap, hvv⟩ : ∃ g cap, v' = .slice (some ⟨g, 0, none⟩) (done.length + 1) cap := by
        rcases HO.out.2 with ⟨_, h0⟩ | ⟨g, cap, cur, hv, _⟩
        · omega
        · exact ⟨g, cap, hv⟩
      rw [hvv] at HO ⊢
      clear hvv
      go_wp2
      go_end0
      exact text_shut hT4.out HW4.out (by omega) Hb.out HO.out HG.out Hrow.out trivial
    · have htl : Hid (tell s.data.toList i (dataAt s.data.toList i) = nameAt s.data.toList i) := by
        show _ = _
        unfold tell; rw [if_neg (by rw [← Hq.out]; exact h0)]; simp
      obtain ⟨v4, hv4, ho4⟩ := hT2.out.out
      have d4 : W2.cell? ⟨bo, 0, none⟩ = some v4 := cell_of hv4 0
      have Ho4 := Lib.hid ho4; have Hv4 := Lib.hid hv4; clear ho4 hv4
      have hlen4 : done.length < 10000 := hn
      have h38 := hi0
      go_wp2_with (at_builtin; refine wpList_append_own _ rfl _ _ 38 rfl R 9 i0 (.string ByteArray.empty) 1 16 Tryd.underlying38 hi0 hz0 hz1 hz2 rfl (by decide) _ _ _ rfl (Ho4.out.alloc _) ⟨W2.heap.size, 0, none⟩ 1 1 [.string _] rfl rfl (cell_one_new _ _ _) (one_cell_str _) (by unfold maxLen; omega) (by omega) (by simp; omega) ?_)
      intro v' w2 hown2 hgrow _
      obtain ⟨hb2, hd1, hf1, hrow⟩ := behind_append Hv4.out Ho4.out hgrow (by omega) (by omega)
      have htv : (({ data := #[63] } ++ { data := hx.toArray }) : ByteArray) = (⟨(tell s.data.toList i (dataAt s.data.toList i)).toArray⟩ : ByteArray) := by
        rw [htl.out, hnm.out]
        try (apply ByteArray.ext; simp)
      rw [htv] at hown2
      have HO := Lib.hid hown2; have HG := Lib.hid hgrow; have Hb := Lib.hid hb2; have Hrow := Lib.hid hrow
      clear htv hown2 hgrow hb2 hrow
      obtain ⟨g, cap, hvv⟩ : ∃ g cap, v' = .slice (some ⟨g, 0, none⟩) (done.length + 1) cap := by
        rcases HO.out.2 with ⟨_, h0⟩ | ⟨g, cap, cur, hv, _⟩
        · omega
        · exact ⟨g, cap, hv⟩
      rw [hvv] at HO ⊢
      clear hvv
      go_wp2
      go_end0
      exact text_shut hT2.out HW2.out (by omega) Hb.out HO.out HG.out Hrow.out trivial
  · -- a code
    have hnm : Hid (nameAt s.data.toList i = x.name) := by
      show _ = _
      unfold nameAt; rw [← H.out.2.2.2.2.2.2, ← H.out.2.2.2.2.2.1]; simp
    have hT2 := hT
    have HW2 := HW
    obtain ⟨W2, hWW⟩ : ∃ W2, W2 = W := ⟨_, rfl⟩
    subst hWW
    have hzW2 := hzW
    clear hT HW
    go_wp2_with fail
    refine (Hp _).out.mono ?_
    rintro e W3 ⟨rfl, rfl⟩
    clear Hp
    by_cases h0 : 0 < q
    · have hhd := fun W => Lib.hid (hex_any d W (by omega))
      have hdl : (hexOf d.data.toList).length ≤ 64 := by rw [hexOf_length]; have : d.data.toList.length = d.size := rfl; omega
      have htl : Hid (tell s.data.toList i (dataAt s.data.toList i) = nameAt s.data.toList i ++ ([32, 48, 120] ++ hexOf d.data.toList)) := by
        show _ = _
        unfold tell; rw [if_pos (by rw [← Hq.out]; exact h0), hdd]
      generalize hexOf d.data.toList = hd2 at hhd hdl htl
      go_wp2_with fail
      refine (hhd _).out.mono ?_
      rintro e W4 ⟨rfl, hb4⟩
      have hT4 := Lib.hid (hT2.out.below (hb4.mono (Nat.le_refl _)))
      have HW4 := Lib.hid (HW2.out.trans (hb4.mono (by omega)))
      have hR4 : R < W4.heap.size := by have := hb4.size; omega
      have hzW4 : w.heap.size < W4.heap.size := by have := hb4.size; omega
      clear hhd hb4 hT2 HW2
      obtain ⟨v4, hv4, ho4⟩ := hT4.out.out
      have d4 : W4.cell? ⟨bo, 0, none⟩ = some v4 := cell_of hv4 0
      have Ho4 := Lib.hid ho4; have Hv4 := Lib.hid hv4; clear ho4 hv4
      have hlen4 : done.length < 10000 := hn
      have h38 := hi0
      go_wp2_with (at_builtin; refine wpList_append_own _ rfl _ _ 38 rfl R 9 i0 (.string ByteArray.empty) 1 16 Tryd.underlying38 hi0 hz0 hz1 hz2 rfl (by decide) _ _ _ rfl (Ho4.out.alloc _) ⟨W4.heap.size, 0, none⟩ 1 1 [.string _] rfl rfl (cell_one_new _ _ _) (one_cell_str _) (by unfold maxLen; omega) (by omega) (by simp; omega) ?_)
      intro v' w2 hown2 hgrow _
      obtain ⟨hb2, hd1, hf1, hrow⟩ := behind_append Hv4.out Ho4.out hgrow (by omega) (by omega)
      have htv : (({ data := x.name.toArray } ++ ({ data := #[32, 48, 120] } ++ { data := hd2.toArray })) : ByteArray) = (⟨(tell s.data.toList i (dataAt s.data.toList i)).toArray⟩ : ByteArray) := by
        rw [htl.out, hnm.out]
        try (apply ByteArray.ext; simp)
      rw [htv] at hown2
      have HO := Lib.hid hown2; have HG := Lib.hid hgrow; have Hb := Lib.hid hb2; have Hrow := Lib.hid hrow
      clear htv hown2 hgrow hb2 hrow
      obtain ⟨g, cap, hvv⟩ : ∃ g cap, v' = .slice (some ⟨g, 0, none⟩) (done.length + 1) cap := by
        rcases HO.out.2 with ⟨_, h0⟩ | ⟨g, cap, cur, hv, _⟩
        · omega
        · exact ⟨g, cap, hv⟩
      rw [hvv] at HO ⊢
      clear hvv
      go_wp2
      go_end0
      exact text_shut hT4.out HW4.out (by omega) Hb.out HO.out HG.out Hrow.out trivial
    · have htl : Hid (tell s.data.toList i (dataAt s.data.toList i) = nameAt s.data.toList i) := by
        show _ = _
        unfold tell; rw [if_neg (by rw [← Hq.out]; exact h0)]; simp
      obtain ⟨v4, hv4, ho4⟩ := hT2.out.out
      have d4 : W2.cell? ⟨bo, 0, none⟩ = some v4 := cell_of hv4 0
      have Ho4 := Lib.hid ho4; have Hv4 := Lib.hid hv4; clear ho4 hv4
      have hlen4 : done.length < 10000 := hn
      have h38 := hi0
      go_wp2_with (at_builtin; refine wpList_append_own _ rfl _ _ 38 rfl R 9 i0 (.string ByteArray.empty) 1 16 Tryd.underlying38 hi0 hz0 hz1 hz2 rfl (by decide) _ _ _ rfl (Ho4.out.alloc _) ⟨W2.heap.size, 0, none⟩ 1 1 [.string _] rfl rfl (cell_one_new _ _ _) (one_cell_str _) (by unfold maxLen; omega) (by omega) (by simp; omega) ?_)
      intro v' w2 hown2 hgrow _
      obtain ⟨hb2, hd1, hf1, hrow⟩ := behind_append Hv4.out Ho4.out hgrow (by omega) (by omega)
      have htv : ({ data := x.name.toArray } : ByteArray) = (⟨(tell s.data.toList i (dataAt s.data.toList i)).toArray⟩ : ByteArray) := by
        rw [htl.out, hnm.out]
        try (apply ByteArray.ext; simp)
      rw [htv] at hown2
      have HO := Lib.hid hown2; have HG := Lib.hid hgrow; have Hb := Lib.hid hb2; have Hrow := Lib.hid hrow
      clear htv hown2 hgrow hb2 hrow
      obtain ⟨g, cap, hvv⟩ : ∃ g cap, v' = .slice (some ⟨g, 0, none⟩) (done.length + 1) cap := by
        rcases HO.out.2 with ⟨_, h0⟩ | ⟨g, cap, cur, hv, _⟩
        · omega
        · exact ⟨g, cap, hv⟩
      rw [hvv] at HO ⊢
      clear hvv
      go_wp2
      go_end0
      exact text_shut hT2.out HW2.out (by omega) Hb.out HO.out HG.out Hrow.out trivial

set_option maxHeartbeats 4000000 in
set_option maxRecDepth 100000 in
theorem eachText_any (s : ByteArray) (bm bv bc bo R : Nat) (w : World) (hI : TInv s bm bv bc bo R [] w) (hs : s.size < 5000) :
    Calls Tryd.prog 21 #[.string s, .func (.func 23) #[] #[.pointer (some ⟨bv, 0, none⟩), .pointer (some ⟨bc, 0, none⟩), .pointer (some ⟨bo, 0, none⟩)]] w fun e w' =>
      e = .returned (.tuple #[]) ∧ TInv s bm bv bc bo R (begins s.data.toList) w' ∧ Keeps R bo w w' := by
  have hsl : Hid (s.data.toList.length = s.size) := rfl
  have HI := Lib.hid hI; clear hI
  go_enter Tryd.func21, Tryd.ntmps21
  go_wp2_with fail
  go_loopw [4] (fun vi wr => ∃ (i f : Nat) (done : List Nat), vi = .int .i64 i ∧ i ≤ s.size ∧ Hid (done ++ starts s.data.toList f i = begins s.data.toList ∧ s.size < f + i ∧ done.length ≤ i) ∧ Hid (TInv s bm bv bc bo R done wr) ∧ Hid (Keeps R bo w wr))
    (fun vi _ => s.size - (intOf vi).toNat)
  case atStart => exact ⟨0, s.size + 1, [], rfl, by omega, ⟨rfl, by omega, by simp⟩, HI.out, Keeps.refl _ _ _⟩
  case round =>
    obtain ⟨i, f, done, rfl, hi, hd, HJ, HK⟩ := hrel
    by_cases hlt : i < s.size
    · have hb : ((s[i]'hlt).toNat : Int) = (byteAt s.data.toList i : Int) := by
        unfold byteAt
        have hl : i < s.data.toList.length := hlt
        rw [List.getElem?_eq_getElem hl]; rfl
      have hp := pushN_range ((s[i]'hlt).toNat : Int)
      obtain ⟨hp0, hp1⟩ := hp
      have Hp := Lib.hid (push_any ((s[i]'hlt).toNat : Int) wr (by omega) (by have := (s[i]'hlt).toNat_lt; omega))
      obtain ⟨q, hq⟩ : ∃ q : Nat, pushN ((s[i]'hlt).toNat : Int) = (q : Int) := ⟨(pushN ((s[i]'hlt).toNat : Int)).toNat, by omega⟩
      have hqt : q = tail s.data.toList i := by unfold tail; rw [← hb, hq]; rfl
      rw [hq] at Hp hp0 hp1
      have Hq := Lib.hid (And.intro hqt hb); clear hqt hb hq
      go_wp2_with fail
      refine Hp.out.mono ?_
      rintro e w2 ⟨rfl, rfl⟩
      clear Hp
      have hdl : done.length < 10000 := by have := hd.out.2.2; omega
      have hstep : Hid (∀ i', i' = min (i + 1 + q) s.size → (done ++ [i]) ++ starts s.data.toList (f - 1) i' = begins s.data.toList ∧ s.size < f - 1 + i' ∧ (done ++ [i]).length ≤ i' ∧ i' ≤ s.size) := by
        intro i' hi'
        obtain ⟨g1, g2, g3⟩ := hd.out
        have hL := hsl.out
        obtain ⟨f', rfl⟩ : ∃ f', f = f' + 1 := ⟨f - 1, by omega⟩
        rw [starts, if_pos (by omega), ← Hq.out.1] at g1
        have e2 : starts s.data.toList f' i' = starts s.data.toList f' (i + 1 + q) := by rw [hi', ← hL, starts_min]
        refine ⟨?_, by omega, by simp; omega, by omega⟩
        rw [show f' + 1 - 1 = f' from by omega, e2, ← g1]; simp
      by_cases hm : i + 1 + q ≤ s.size
      · have e1 : min ((i : Int) + 1 + (q : Int)) (s.size : Int) = (i : Int) + 1 + (q : Int) := by omega
        have hx : (s.extract (i + 1) (i + 1 + q)).data.toList = dataAt s.data.toList i := by
          rw [Lib.extract_data, dataAt, ← Hq.out.1]; congr 1; omega
        have HF := Lib.hid (textFn_any s (s.extract (i + 1) (i + 1 + q)) bm bv bc bo R i done wr HJ.out hlt hdl (by omega) (size_of_data hx (by rw [← Hq.out.1]; omega)) hx)
        clear hx
        go_wp2_with fail
        refine HF.out.mono ?_
        rintro e w3 ⟨rfl, hJ3, hK3⟩
        have HJ3 := Lib.hid hJ3; have HK3 := Lib.hid hK3; clear hJ3 hK3 HF
        go_wp2_with fail
        have h4 := hstep.out (i + 1 + q) (by omega)
        exact ⟨⟨i + 1 + q, f - 1, done ++ [i], by go_num, hm, ⟨h4.1, h4.2.1, h4.2.2.1⟩, HJ3, HK.out.trans HK3.out⟩, by simp [intOf]; omega⟩
      · have e1 : min ((i : Int) + 1 + (q : Int)) (s.size : Int) = (s.size : Int) := by omega
        have hx : (s.extract (i + 1) s.size).data.toList = dataAt s.data.toList i := by
          rw [Lib.extract_data, dataAt, ← Hq.out.1, List.take_of_length_le (by simp [hsl.out]), List.take_of_length_le (by simp [hsl.out]; omega)]
        have HF := Lib.hid (textFn_any s (s.extract (i + 1) s.size) bm bv bc bo R i done wr HJ.out hlt hdl (by omega) (size_of_data hx (by rw [← Hq.out.1]; omega)) hx)
        clear hx
        go_wp2_with fail
        refine HF.out.mono ?_
        rintro e w3 ⟨rfl, hJ3, hK3⟩
        have HJ3 := Lib.hid hJ3; have HK3 := Lib.hid hK3; clear hJ3 hK3 HF
        go_wp2_with fail
        have h4 := hstep.out s.size (by omega)
        exact ⟨⟨s.size, f - 1, done ++ [i], rfl, Nat.le_refl _, ⟨h4.1, h4.2.1, h4.2.2.1⟩, HJ3, HK.out.trans HK3.out⟩, by simp [intOf]; omega⟩
    · go_wp2_with fail
      go_end0
      have hdd := hd.out
      rw [starts_past _ _ _ (by rw [hsl.out]; omega), List.append_nil] at hdd
      rw [← hdd.1]
      exact ⟨rfl, HJ.out, HK.out⟩

end Go.Proofs.YtnachjhhbhhpoaaDoor
