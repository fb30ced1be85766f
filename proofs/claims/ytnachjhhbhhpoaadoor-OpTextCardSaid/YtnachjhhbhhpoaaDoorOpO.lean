/-
  stithyref12.Text: the instructions told, in the document's words.
-/
import Derived.Test.YtnachjhhbhhpoaaDoorOpM
import Derived.Test.YtnachjhhbhhpoaaDoorOpN
namespace Go.Proofs.YtnachjhhbhhpoaaDoor
open Go.RowKit Go.Shelf
theorem cell_one_at {w : World} {n : Nat} {v : Value} {t : TypeId} (h : n = w.heap.size) : ∀ j u, [v][j]? = some u → (w.alloc (.cells #[v] t)).cell? ((⟨n, 0, none⟩ : Addr).add j) = some u := by
  subst h; exact cell_one_new _ _ _
set_option maxHeartbeats 16000000 in
set_option maxRecDepth 100000 in
theorem refText_any (s : ByteArray) (w : World) (hs : s.size < 5000) :
    Calls Tryd.prog 18 #[.string s] w fun e w' => ∃ v, e = .returned v ∧ w'.ownsRow w.heap.size 9 1 v (begins s.data.toList).length (strs' (textOf s.data.toList (begins s.data.toList))) ∧ Below w.heap.size w w' := by
  have hsl : Hid (s.data.toList.length = s.size) := rfl
  obtain ⟨i0, hi0, hz0, hz1, hz2⟩ := info_parts (show (Tryd.prog.info? 9).map (fun i => (i.zero, i.size, i.bytes)) = some (some (.string ByteArray.empty), 1, 16) by kernel_rfl)
  go_enter Tryd.func18, Tryd.ntmps18
  go_wp2_with fail
  go_loopw [3, 4] (fun vo vi wr => ∃ (i f : Nat) (done : List Nat), vi = .int .i64 i ∧ i < s.size + 100 ∧ Hid (done ++ starts s.data.toList f i = begins s.data.toList ∧ s.size < f + i ∧ done.length ≤ i) ∧
      Hid (wr.ownsRow w.heap.size 9 1 vo done.length (strs' (textOf s.data.toList done))) ∧ Hid (Below w.heap.size w wr))
    (fun _ vi _ => s.size + 100 - (intOf vi).toNat)
  case atStart => exact ⟨0, s.size + 1, [], rfl, by omega, ⟨rfl, by omega, by simp⟩, ⟨by simp [textOf, strs'], .inl ⟨rfl, rfl⟩⟩, Below.refl _ _⟩
  case round =>
    obtain ⟨i, f, done, rfl, hi, hd, HO, HB⟩ := hrel
    have hsw := HB.out.size
    by_cases hlt : i < s.size
    · have hb : ((s[i]'hlt).toNat : Int) = (byteAt s.data.toList i : Int) := by
        unfold byteAt
        have hl : i < s.data.toList.length := hlt
        rw [List.getElem?_eq_getElem hl]; rfl
      have hp := pushN_range ((s[i]'hlt).toNat : Int)
      obtain ⟨hp0, hp1⟩ := hp
      have Hp := fun W => Lib.hid (refPush_any ((s[i]'hlt).toNat : Int) W (by omega) (by have := (s[i]'hlt).toNat_lt; omega))
      obtain ⟨q, hq⟩ : ∃ q : Nat, pushN ((s[i]'hlt).toNat : Int) = (q : Int) := ⟨(pushN ((s[i]'hlt).toNat : Int)).toNat, by omega⟩
      have hqt : q = tail s.data.toList i := by unfold tail; rw [← hb, hq]; rfl
      rw [hq] at Hp hp0 hp1
      have Hq := Lib.hid (And.intro hqt hb)
      have hstep : Hid ((done ++ [i]) ++ starts s.data.toList (f - 1) (i + q + 1) = begins s.data.toList ∧ s.size < f - 1 + (i + q + 1) ∧ (done ++ [i]).length ≤ i + q + 1) := by
        obtain ⟨g1, g2, g3⟩ := hd.out
        have hL := hsl.out
        obtain ⟨f', rfl⟩ : ∃ f', f = f' + 1 := ⟨f - 1, by omega⟩
        rw [starts, if_pos (by omega), ← hqt, show i + 1 + q = i + q + 1 from by omega] at g1
        refine ⟨?_, by omega, by simp; omega⟩
        rw [show f' + 1 - 1 = f' from by omega, ← g1]; simp
      clear hqt hq
      have hdl : done.length < 10000 := by have := hd.out.2.2; omega
      obtain ⟨x, hx⟩ : ∃ x, x = infOf (byteAt s.data.toList i) := ⟨_, rfl⟩
      obtain ⟨ok, hok⟩ : ∃ ok, ok = known (byteAt s.data.toList i) := ⟨_, rfl⟩
      have hOf : Hid (Calls Tryd.prog 10 #[.int .u8 ((s[i]'hlt).toNat : Int)] wr fun e w' =>
          e = .returned (.tuple #[.agg #[.string { data := x.name.toArray }, .int .u64 (x.gas : Int), .int .i64 (x.inn : Int), .int .i64 (x.out : Int)], .bool ok]) ∧ Below wr.heap.size wr w') := by
        show Calls _ _ _ _ _
        rw [hb, hx, hok]
        refine (refOf_any _ wr (by unfold byteAt; exact UInt8.toNat_lt _)).mono ?_
        rintro e w' ⟨rfl, hb⟩
        exact ⟨rfl, hb⟩
      have hxl : x.name.length ≤ 20 := by rw [hx]; exact infOf_short _
      have H := Lib.hid (And.intro hx hok)
      clear hb hx hok
      go_wp2_with fail
      refine hOf.out.mono ?_
      rintro e W0 ⟨rfl, hb0⟩
      have hzW : wr.heap.size ≤ W0.heap.size := hb0.size
      have HT := Lib.hid (And.intro (ownsRow_below HO.out hb0 (Nat.le_refl _)) (HB.out.trans (hb0.mono hsw)))
      clear hb0 hOf HO HB
      cases ok
      · -- no code
        have hx1 : (s.extract i (i + 1)).data.toList = [s.data.toList[i]?.getD 0] := by
          rw [Lib.extract_data]
          have hl : i < s.data.toList.length := hlt
          rw [List.getElem?_eq_getElem hl, show i + 1 - i = 1 from by omega, List.drop_eq_getElem_cons hl]; rfl
        have hs1 : (s.extract i (i + 1)).size ≤ 1000 := by
          show (s.extract i (i + 1)).data.toList.length ≤ 1000
          rw [hx1]; simp
        have Hx := fun W => Lib.hid (refHex_any (s.extract i (i + 1)) W hs1)
        rw [hx1] at Hx
        have hx2 : (hexOf [s.data.toList[i]?.getD 0]).length ≤ 2 := by rw [hexOf_length]; simp
        have hnm : Hid (nameAt s.data.toList i = [63] ++ hexOf [s.data.toList[i]?.getD 0]) := by
          show _ = _
          unfold nameAt; rw [← H.out.2]; simp
        generalize hexOf [s.data.toList[i]?.getD 0] = hx at Hx hx2 hnm
        clear hx1 hs1
        go_wp2_with fail
        refine (Hp _).out.mono ?_
        rintro e W3 ⟨rfl, rfl⟩
        clear Hp
        go_wp2_with fail
        refine (Hx _).out.mono ?_
        rintro e W2 ⟨rfl, hb2⟩
        simp only [World.size_alloc] at hb2
        have hzW2 : wr.heap.size ≤ W2.heap.size := by have := hb2.size; simp at this; omega
        have HT2 := Lib.hid (And.intro (ownsRow_below (HT.out.1.alloc _) hb2 (by simp)) ((HT.out.2.alloc (by omega) _).trans (hb2.mono (by omega))))
        clear Hx hb2 HT
        by_cases h0 : 0 < q
        · by_cases hm : i + 1 + q ≤ s.size
          · have e1 : min ((i : Int) + 1 + (q : Int)) (s.size : Int) = (i : Int) + 1 + (q : Int) := by omega
            have hxx : (s.extract (i + 1) (i + 1 + q)).data.toList = dataAt s.data.toList i := by
              rw [Lib.extract_data, dataAt, ← Hq.out.1]; congr 1; omega
            have Hd := fun W => Lib.hid (refHex_any (s.extract (i + 1) (i + 1 + q)) W (by have := size_of_data hxx (by rw [← Hq.out.1]; omega); omega))
            rw [hxx] at Hd
            have hd2 : (hexOf (dataAt s.data.toList i)).length ≤ 64 := by
              rw [hexOf_length, dataAt, List.length_take, ← Hq.out.1]; omega
            have htl : Hid (tell s.data.toList i (dataAt s.data.toList i) = nameAt s.data.toList i ++ ([32, 48, 120] ++ hexOf (dataAt s.data.toList i))) := by
              show _ = _
              unfold tell; rw [if_pos (by rw [← Hq.out.1]; exact h0)]
            have hht : ∃ t, t = tell s.data.toList i (dataAt s.data.toList i) := ⟨_, rfl⟩
            obtain ⟨hx4, hhx4⟩ : ∃ hx4, hx4 = hexOf (dataAt s.data.toList i) := ⟨_, rfl⟩
            rw [← hhx4] at Hd hd2 htl
            clear hxx hht hhx4
            go_wp2_with fail
            refine (Hd _).out.mono ?_
            rintro e W4 ⟨rfl, hb4⟩
            have hzW4 : wr.heap.size ≤ W4.heap.size := by have := hb4.size; omega
            have HT4 := Lib.hid (And.intro (ownsRow_below HT2.out.1 hb4 (Nat.le_refl _)) (HT2.out.2.trans (hb4.mono (by omega))))
            clear Hd hb4 HT2
            go_wp2_with (at_builtin; refine wpList_append_own _ rfl _ _ 38 rfl w.heap.size 9 i0 (.string ByteArray.empty) 1 16 Tryd.underlying38 hi0 hz0 hz1 hz2 rfl (by decide) _ _ _ rfl (HT4.out.1.alloc _) ⟨W4.heap.size, 0, none⟩ 1 1 [.string _] rfl rfl (cell_one_new _ _ _) (one_cell_str _) (by unfold maxLen; omega) (by omega) (by simp; omega) ?_)
            intro v' w2 hown2 hgrow _
            have htv : ((({ data := #[63] } ++ { data := hx.toArray }) ++ { data := #[32, 48, 120] } ++ { data := hx4.toArray }) : ByteArray) = (⟨(tell s.data.toList i (dataAt s.data.toList i)).toArray⟩ : ByteArray) := by
              rw [htl.out, hnm.out]
              try (apply ByteArray.ext; simp)
            rw [htv] at hown2
            have HO2 : Hid (w2.ownsRow w.heap.size 9 1 v' (done ++ [i]).length (strs' (textOf s.data.toList (done ++ [i])))) := by
              have e1 : textOf s.data.toList (done ++ [i]) = textOf s.data.toList done ++ [tell s.data.toList i (dataAt s.data.toList i)] := by simp [textOf]
              show World.ownsRow _ _ _ _ _ _ _
              rw [e1, strs'_snoc, List.length_append]; exact hown2
            have HB2 := Lib.hid (below_grown_own (HT4.out.2.alloc (by first | omega | (simp; omega)) _) (HT4.out.1.alloc _) hgrow (by simp; omega))
            clear htv hown2 hgrow
            go_wp2_with fail
            exact ⟨⟨i + q + 1, f - 1, done ++ [i], by go_num, by omega, hstep, HO2, HB2⟩, by simp [intOf]; omega⟩
          · have e1 : min ((i : Int) + 1 + (q : Int)) (s.size : Int) = (s.size : Int) := by omega
            have hxx : (s.extract (i + 1) s.size).data.toList = dataAt s.data.toList i := by
              rw [Lib.extract_data, dataAt, ← Hq.out.1, List.take_of_length_le (by simp [hsl.out]), List.take_of_length_le (by simp [hsl.out]; omega)]
            have Hd := fun W => Lib.hid (refHex_any (s.extract (i + 1) s.size) W (by have := size_of_data hxx (by rw [← Hq.out.1]; omega); omega))
            rw [hxx] at Hd
            have hd2 : (hexOf (dataAt s.data.toList i)).length ≤ 64 := by
              rw [hexOf_length, dataAt, List.length_take, ← Hq.out.1]; omega
            have htl : Hid (tell s.data.toList i (dataAt s.data.toList i) = nameAt s.data.toList i ++ ([32, 48, 120] ++ hexOf (dataAt s.data.toList i))) := by
              show _ = _
              unfold tell; rw [if_pos (by rw [← Hq.out.1]; exact h0)]
            have hht : ∃ t, t = tell s.data.toList i (dataAt s.data.toList i) := ⟨_, rfl⟩
            obtain ⟨hx4, hhx4⟩ : ∃ hx4, hx4 = hexOf (dataAt s.data.toList i) := ⟨_, rfl⟩
            rw [← hhx4] at Hd hd2 htl
            clear hxx hht hhx4
            go_wp2_with fail
            refine (Hd _).out.mono ?_
            rintro e W4 ⟨rfl, hb4⟩
            have hzW4 : wr.heap.size ≤ W4.heap.size := by have := hb4.size; omega
            have HT4 := Lib.hid (And.intro (ownsRow_below HT2.out.1 hb4 (Nat.le_refl _)) (HT2.out.2.trans (hb4.mono (by omega))))
            clear Hd hb4 HT2
            go_wp2_with (at_builtin; refine wpList_append_own _ rfl _ _ 38 rfl w.heap.size 9 i0 (.string ByteArray.empty) 1 16 Tryd.underlying38 hi0 hz0 hz1 hz2 rfl (by decide) _ _ _ rfl (HT4.out.1.alloc _) ⟨W4.heap.size, 0, none⟩ 1 1 [.string _] rfl rfl (cell_one_new _ _ _) (one_cell_str _) (by unfold maxLen; omega) (by omega) (by simp; omega) ?_)
            intro v' w2 hown2 hgrow _
            have htv : ((({ data := #[63] } ++ { data := hx.toArray }) ++ { data := #[32, 48, 120] } ++ { data := hx4.toArray }) : ByteArray) = (⟨(tell s.data.toList i (dataAt s.data.toList i)).toArray⟩ : ByteArray) := by
              rw [htl.out, hnm.out]
              try (apply ByteArray.ext; simp)
            rw [htv] at hown2
            have HO2 : Hid (w2.ownsRow w.heap.size 9 1 v' (done ++ [i]).length (strs' (textOf s.data.toList (done ++ [i])))) := by
              have e1 : textOf s.data.toList (done ++ [i]) = textOf s.data.toList done ++ [tell s.data.toList i (dataAt s.data.toList i)] := by simp [textOf]
              show World.ownsRow _ _ _ _ _ _ _
              rw [e1, strs'_snoc, List.length_append]; exact hown2
            have HB2 := Lib.hid (below_grown_own (HT4.out.2.alloc (by first | omega | (simp; omega)) _) (HT4.out.1.alloc _) hgrow (by simp; omega))
            clear htv hown2 hgrow
            go_wp2_with fail
            exact ⟨⟨i + q + 1, f - 1, done ++ [i], by go_num, by omega, hstep, HO2, HB2⟩, by simp [intOf]; omega⟩
        · have htl : Hid (tell s.data.toList i (dataAt s.data.toList i) = nameAt s.data.toList i) := by
            show _ = _
            unfold tell; rw [if_neg (by rw [← Hq.out.1]; exact h0)]; simp
          go_wp2_with (at_builtin; refine wpList_append_own _ rfl _ _ 38 rfl w.heap.size 9 i0 (.string ByteArray.empty) 1 16 Tryd.underlying38 hi0 hz0 hz1 hz2 rfl (by decide) _ _ _ rfl (HT2.out.1.alloc _) ⟨W2.heap.size, 0, none⟩ 1 1 [.string _] rfl rfl (cell_one_new _ _ _) (one_cell_str _) (by unfold maxLen; omega) (by omega) (by simp; omega) ?_)
          intro v' w2 hown2 hgrow _
          have htv : ((({ data := #[63] } ++ { data := hx.toArray })) : ByteArray) = (⟨(tell s.data.toList i (dataAt s.data.toList i)).toArray⟩ : ByteArray) := by
            rw [htl.out, hnm.out]
            try (apply ByteArray.ext; simp)
          rw [htv] at hown2
          have HO2 : Hid (w2.ownsRow w.heap.size 9 1 v' (done ++ [i]).length (strs' (textOf s.data.toList (done ++ [i])))) := by
            have e1 : textOf s.data.toList (done ++ [i]) = textOf s.data.toList done ++ [tell s.data.toList i (dataAt s.data.toList i)] := by simp [textOf]
            show World.ownsRow _ _ _ _ _ _ _
            rw [e1, strs'_snoc, List.length_append]; exact hown2
          have HB2 := Lib.hid (below_grown_own (HT2.out.2.alloc (by first | omega | (simp; omega)) _) (HT2.out.1.alloc _) hgrow (by simp; omega))
          clear htv hown2 hgrow
          go_wp2_with fail
          exact ⟨⟨i + q + 1, f - 1, done ++ [i], by go_num, by omega, hstep, HO2, HB2⟩, by simp [intOf]; omega⟩
      · -- a code
        have hnm : Hid (nameAt s.data.toList i = x.name) := by
          show _ = _
          unfold nameAt; rw [← H.out.2, ← H.out.1]; simp
        go_wp2_with fail
        refine (Hp _).out.mono ?_
        rintro e W3 ⟨rfl, rfl⟩
        clear Hp
        by_cases h0 : 0 < q
        · by_cases hm : i + 1 + q ≤ s.size
          · have e1 : min ((i : Int) + 1 + (q : Int)) (s.size : Int) = (i : Int) + 1 + (q : Int) := by omega
            have hxx : (s.extract (i + 1) (i + 1 + q)).data.toList = dataAt s.data.toList i := by
              rw [Lib.extract_data, dataAt, ← Hq.out.1]; congr 1; omega
            have Hd := fun W => Lib.hid (refHex_any (s.extract (i + 1) (i + 1 + q)) W (by have := size_of_data hxx (by rw [← Hq.out.1]; omega); omega))
            rw [hxx] at Hd
            have hd2 : (hexOf (dataAt s.data.toList i)).length ≤ 64 := by
              rw [hexOf_length, dataAt, List.length_take, ← Hq.out.1]; omega
            have htl : Hid (tell s.data.toList i (dataAt s.data.toList i) = nameAt s.data.toList i ++ ([32, 48, 120] ++ hexOf (dataAt s.data.toList i))) := by
              show _ = _
              unfold tell; rw [if_pos (by rw [← Hq.out.1]; exact h0)]
            have hht : ∃ t, t = tell s.data.toList i (dataAt s.data.toList i) := ⟨_, rfl⟩
            obtain ⟨hx4, hhx4⟩ : ∃ hx4, hx4 = hexOf (dataAt s.data.toList i) := ⟨_, rfl⟩
            rw [← hhx4] at Hd hd2 htl
            clear hxx hht hhx4
            go_wp2_with fail
            refine (Hd _).out.mono ?_
            rintro e W4 ⟨rfl, hb4⟩
            simp only [World.size_alloc] at hb4
            have hzW4 : wr.heap.size ≤ W4.heap.size := by have := hb4.size; simp at this; omega
            have HT4 := Lib.hid (And.intro (ownsRow_below (HT.out.1.alloc _) hb4 (by simp)) ((HT.out.2.alloc (by omega) _).trans (hb4.mono (by omega))))
            clear Hd hb4 HT
            go_wp2_with (at_builtin; refine wpList_append_own _ rfl _ _ 38 rfl w.heap.size 9 i0 (.string ByteArray.empty) 1 16 Tryd.underlying38 hi0 hz0 hz1 hz2 rfl (by decide) _ _ _ rfl (HT4.out.1.alloc _) ⟨W4.heap.size, 0, none⟩ 1 1 [.string _] rfl rfl (cell_one_new _ _ _) (one_cell_str _) (by unfold maxLen; omega) (by omega) (by simp; omega) ?_)
            intro v' w2 hown2 hgrow _
            have htv : (({ data := x.name.toArray } ++ { data := #[32, 48, 120] } ++ { data := hx4.toArray }) : ByteArray) = (⟨(tell s.data.toList i (dataAt s.data.toList i)).toArray⟩ : ByteArray) := by
              rw [htl.out, hnm.out]
              try (apply ByteArray.ext; simp)
            rw [htv] at hown2
            have HO2 : Hid (w2.ownsRow w.heap.size 9 1 v' (done ++ [i]).length (strs' (textOf s.data.toList (done ++ [i])))) := by
              have e1 : textOf s.data.toList (done ++ [i]) = textOf s.data.toList done ++ [tell s.data.toList i (dataAt s.data.toList i)] := by simp [textOf]
              show World.ownsRow _ _ _ _ _ _ _
              rw [e1, strs'_snoc, List.length_append]; exact hown2
            have HB2 := Lib.hid (below_grown_own (HT4.out.2.alloc (by first | omega | (simp; omega)) _) (HT4.out.1.alloc _) hgrow (by simp; omega))
            clear htv hown2 hgrow
            go_wp2_with fail
            exact ⟨⟨i + q + 1, f - 1, done ++ [i], by go_num, by omega, hstep, HO2, HB2⟩, by simp [intOf]; omega⟩
          · have e1 : min ((i : Int) + 1 + (q : Int)) (s.size : Int) = (s.size : Int) := by omega
            have hxx : (s.extract (i + 1) s.size).data.toList = dataAt s.data.toList i := by
              rw [Lib.extract_data, dataAt, ← Hq.out.1, List.take_of_length_le (by simp [hsl.out]), List.take_of_length_le (by simp [hsl.out]; omega)]
            have Hd := fun W => Lib.hid (refHex_any (s.extract (i + 1) s.size) W (by have := size_of_data hxx (by rw [← Hq.out.1]; omega); omega))
            rw [hxx] at Hd
            have hd2 : (hexOf (dataAt s.data.toList i)).length ≤ 64 := by
              rw [hexOf_length, dataAt, List.length_take, ← Hq.out.1]; omega
            have htl : Hid (tell s.data.toList i (dataAt s.data.toList i) = nameAt s.data.toList i ++ ([32, 48, 120] ++ hexOf (dataAt s.data.toList i))) := by
              show _ = _
              unfold tell; rw [if_pos (by rw [← Hq.out.1]; exact h0)]
            have hht : ∃ t, t = tell s.data.toList i (dataAt s.data.toList i) := ⟨_, rfl⟩
            obtain ⟨hx4, hhx4⟩ : ∃ hx4, hx4 = hexOf (dataAt s.data.toList i) := ⟨_, rfl⟩
            rw [← hhx4] at Hd hd2 htl
            clear hxx hht hhx4
            go_wp2_with fail
            refine (Hd _).out.mono ?_
            rintro e W4 ⟨rfl, hb4⟩
            simp only [World.size_alloc] at hb4
            have hzW4 : wr.heap.size ≤ W4.heap.size := by have := hb4.size; simp at this; omega
            have HT4 := Lib.hid (And.intro (ownsRow_below (HT.out.1.alloc _) hb4 (by simp)) ((HT.out.2.alloc (by omega) _).trans (hb4.mono (by omega))))
            clear Hd hb4 HT
            go_wp2_with (at_builtin; refine wpList_append_own _ rfl _ _ 38 rfl w.heap.size 9 i0 (.string ByteArray.empty) 1 16 Tryd.underlying38 hi0 hz0 hz1 hz2 rfl (by decide) _ _ _ rfl (HT4.out.1.alloc _) ⟨W4.heap.size, 0, none⟩ 1 1 [.string _] rfl rfl (cell_one_new _ _ _) (one_cell_str _) (by unfold maxLen; omega) (by omega) (by simp; omega) ?_)
            intro v' w2 hown2 hgrow _
            have htv : (({ data := x.name.toArray } ++ { data := #[32, 48, 120] } ++ { data := hx4.toArray }) : ByteArray) = (⟨(tell s.data.toList i (dataAt s.data.toList i)).toArray⟩ : ByteArray) := by
              rw [htl.out, hnm.out]
              try (apply ByteArray.ext; simp)
            rw [htv] at hown2
            have HO2 : Hid (w2.ownsRow w.heap.size 9 1 v' (done ++ [i]).length (strs' (textOf s.data.toList (done ++ [i])))) := by
              have e1 : textOf s.data.toList (done ++ [i]) = textOf s.data.toList done ++ [tell s.data.toList i (dataAt s.data.toList i)] := by simp [textOf]
              show World.ownsRow _ _ _ _ _ _ _
              rw [e1, strs'_snoc, List.length_append]; exact hown2
            have HB2 := Lib.hid (below_grown_own (HT4.out.2.alloc (by first | omega | (simp; omega)) _) (HT4.out.1.alloc _) hgrow (by simp; omega))
            clear htv hown2 hgrow
            go_wp2_with fail
            exact ⟨⟨i + q + 1, f - 1, done ++ [i], by go_num, by omega, hstep, HO2, HB2⟩, by simp [intOf]; omega⟩
        · have htl : Hid (tell s.data.toList i (dataAt s.data.toList i) = nameAt s.data.toList i) := by
            show _ = _
            unfold tell; rw [if_neg (by rw [← Hq.out.1]; exact h0)]; simp
          have HTv := Lib.hid (And.intro (HT.out.1.alloc (.cells #[.string { data := x.name.toArray }, .int .u64 (x.gas : Int), .int .i64 (x.inn : Int), .int .i64 (x.out : Int)] 28)) (HT.out.2.alloc (by omega) (.cells #[.string { data := x.name.toArray }, .int .u64 (x.gas : Int), .int .i64 (x.inn : Int), .int .i64 (x.out : Int)] 28)))
          go_wp2_with (at_builtin; refine wpList_append_own _ rfl _ _ 38 rfl w.heap.size 9 i0 (.string ByteArray.empty) 1 16 Tryd.underlying38 hi0 hz0 hz1 hz2 rfl (by decide) _ _ _ rfl (HTv.out.1.alloc _) ⟨W0.heap.size + 1, 0, none⟩ 1 1 [.string _] rfl rfl (cell_one_at (by simp)) (one_cell_str _) (by unfold maxLen; omega) (by omega) (by simp; omega) ?_)
          intro v' w2 hown2 hgrow _
          have htv : (({ data := x.name.toArray }) : ByteArray) = (⟨(tell s.data.toList i (dataAt s.data.toList i)).toArray⟩ : ByteArray) := by
            rw [htl.out, hnm.out]
            try (apply ByteArray.ext; simp)
          rw [htv] at hown2
          have HO2 : Hid (w2.ownsRow w.heap.size 9 1 v' (done ++ [i]).length (strs' (textOf s.data.toList (done ++ [i])))) := by
            have e1 : textOf s.data.toList (done ++ [i]) = textOf s.data.toList done ++ [tell s.data.toList i (dataAt s.data.toList i)] := by simp [textOf]
            show World.ownsRow _ _ _ _ _ _ _
            rw [e1, strs'_snoc, List.length_append]; exact hown2
          have HB2 := Lib.hid (below_grown_own (HTv.out.2.alloc (by first | omega | (simp; omega)) _) (HTv.out.1.alloc _) hgrow (by simp; omega))
          clear htv hown2 hgrow
          go_wp2_with fail
          exact ⟨⟨i + q + 1, f - 1, done ++ [i], by go_num, by omega, hstep, HO2, HB2⟩, by simp [intOf]; omega⟩
    · go_wp2_with fail
      go_ret
      have hdd := hd.out
      rw [starts_past _ _ _ (by rw [hsl.out]; omega), List.append_nil] at hdd
      have ho := HO.out
      rw [hdd.1] at ho
      exact ⟨_, rfl, ho, HB.out⟩
end Go.Proofs.YtnachjhhbhhpoaaDoor
