/-
  OpText: the walk.
-/
import Derived.Test.YtnachjhhbhhpoaaDoorOpQ
import Derived.Test.YtnachjhhbhhpoaaDoorOpS
import Derived.Laws.BytesArg
namespace Go.Proofs.YtnachjhhbhhpoaaDoor
open Go.RowKit Go.Shelf
/-- Bytes as cells. -/
def bytesV (l : List UInt8) : List Value := l.map fun c => .int .u8 (c.toNat : Int)
theorem bytesV_length (l : List UInt8) : (bytesV l).length = l.length := by simp [bytesV]
theorem wrap_u8 (x : Nat) : IntKind.u8.wrap (x : Int) = (((UInt8.ofNat x).toNat : Nat) : Int) := by
  simp [IntKind.wrap, IntKind.bits, IntKind.signed]
theorem and15 (x : Nat) (h : x < 65536) : bits .and .u16 (x : Int) 15 = ((x % 16 : Nat) : Int) := by
  have h1 : (BitVec.ofInt 16 (x : Int)).toNat = x := by
    rw [BitVec.ofInt_natCast, BitVec.toNat_ofNat]; exact Nat.mod_eq_of_lt (by omega)
  have h2 : (BitVec.ofInt 16 (15 : Int)).toNat = 15 := by decide
  show IntKind.u16.wrap ((BitVec.ofInt 16 (x : Int) &&& BitVec.ofInt 16 (15 : Int)).toNat : Int) = _
  rw [BitVec.toNat_and, h1, h2, show x &&& 15 = x % 16 from Nat.and_two_pow_sub_one_eq_mod x 4]
  exact IntWalk.u16_in _ ⟨by omega, by omega⟩
/-- The digits. -/
def Dg : ByteArray := ⟨#[48, 49, 50, 51, 52, 53, 54, 55, 56, 57, 97, 98, 99, 100, 101, 102]⟩
theorem word_narrow (x : Nat) (_h : x < 65536) : (⟨(word false x).toArray⟩ : ByteArray) = (⟨#[80, 85, 83, 72, 49, 32, 48, 120]⟩ : ByteArray) ++ (Dg.extract (x / 16 % 16) (x / 16 % 16 + 1) ++ Dg.extract (x % 16) (x % 16 + 1)) := by
  unfold Dg
  rw [hex_cut _ (by omega), hex_cut _ (by omega)]
  unfold word hexOf
  have e1 : (UInt8.ofNat (x % 256)).toNat = x % 256 := UInt8.toNat_ofNat_of_lt' (show x % 256 < 256 by omega)
  simp only [List.flatMap_cons, List.flatMap_nil, e1, Bool.false_eq_true, if_false, List.append_nil]
  rw [show x % 256 / 16 = x / 16 % 16 from by omega, show x % 256 % 16 = x % 16 from by omega]
  rfl
theorem word_wide (x : Nat) (h : x < 65536) : (⟨(word true x).toArray⟩ : ByteArray) = (⟨#[80, 85, 83, 72, 50, 32, 48, 120]⟩ : ByteArray) ++ Dg.extract (x / 4096) (x / 4096 + 1) ++ Dg.extract (x / 256 % 16) (x / 256 % 16 + 1) ++ (Dg.extract (x / 16 % 16) (x / 16 % 16 + 1) ++ Dg.extract (x % 16) (x % 16 + 1)) := by
  unfold Dg
  rw [hex_cut _ (by omega), hex_cut _ (by omega), hex_cut _ (by omega), hex_cut _ (by omega)]
  unfold word hexOf
  have e1 : (UInt8.ofNat (x % 256)).toNat = x % 256 := UInt8.toNat_ofNat_of_lt' (show x % 256 < 256 by omega)
  have e2 : (UInt8.ofNat (x / 256)).toNat = x / 256 := UInt8.toNat_ofNat_of_lt' (show x / 256 < 256 by omega)
  simp only [List.flatMap_cons, List.flatMap_nil, e1, e2, if_true, List.append_nil]
  rw [show x % 256 / 16 = x / 16 % 16 from by omega, show x % 256 % 16 = x % 16 from by omega, show x / 256 / 16 = x / 4096 from by omega]
  rfl
theorem two_ints (q : IntKind) (a b : Int) : ∀ u ∈ [Value.int q a, .int q b], u.oneCell' = true := by
  intro u hu
  simp only [List.mem_cons, List.not_mem_nil, or_false] at hu
  rcases hu with rfl | rfl <;> rfl
theorem three_ints (q : IntKind) (a b c : Int) : ∀ u ∈ [Value.int q a, .int q b, .int q c], u.oneCell' = true := by
  intro u hu
  simp only [List.mem_cons, List.not_mem_nil, or_false] at hu
  rcases hu with rfl | rfl | rfl <;> rfl
theorem encs_take {wide : Bool} {l : List Nat} {i : Nat} (h : i < l.length) : encs wide (l.take (i + 1)) = encs wide (l.take i) ++ enc wide (l[i]'h) := by
  unfold encs
  rw [List.take_succ_eq_append_getElem h, List.flatMap_append]; simp
theorem bytesV_get (l : List UInt8) (j : Nat) (h : j < l.length) : (bytesV l)[j]? = some (.int .u8 (((l.map fun c => (c.toNat : Int)).getD j 0))) := by
  unfold bytesV
  simp [List.getD_eq_getElem?_getD, h]
theorem convert_own {w : World} {base : Nat} {v : Value} {bs : List UInt8} (h : w.ownsRow base 5 1 v bs.length (bytesV bs)) :
    (convert 42 9 v).run Tryd.prog w = .ok (.string ⟨bs.toArray⟩) w := by
  by_cases h0 : 0 < bs.length
  · obtain ⟨g, cap, rfl, _, _, _, hx⟩ := own_cells h h0
    have h := run_convert_bytes_arg (P := Tryd.prog) w 42 5 Tryd.underlying42 Tryd.underlying5 g 0 bs.length cap (bs.map fun c => (c.toNat : Int)) (by simp) (fun j hj => by rw [Nat.zero_add]; exact hx _ _ (bytesV_get _ _ hj)) 9 Tryd.underlying9
    rw [h, strOfNums_str, List.map_map]
    unfold str
    rw [show (fun n : Int => UInt8.ofNat n.toNat) ∘ (fun c : UInt8 => (c.toNat : Int)) = id from by funext c; simp, List.map_id]
  · have hb : bs = [] := List.length_eq_zero_iff.1 (by omega)
    subst hb
    obtain ⟨_, ⟨rfl, _⟩ | ⟨g, cap, cur, rfl, _⟩⟩ := h
    · exact run_convert_bytes_nil (P := Tryd.prog) w 42 5 Tryd.underlying42 Tryd.underlying5 0 0 9 Tryd.underlying9
    · exact run_convert_bytes_arg (P := Tryd.prog) w 42 5 Tryd.underlying42 Tryd.underlying5 g 0 0 cap [] rfl (fun j hj => by omega) 9 Tryd.underlying9
theorem encs_length (wide : Bool) (l : List Nat) : (encs wide l).length ≤ 3 * l.length := by
  unfold encs
  induction l with
  | nil => simp
  | cons x l ih =>
    rw [List.flatMap_cons, List.length_append, List.length_cons]
    have : (enc wide x).length ≤ 3 := by unfold enc; split <;> simp
    omega
set_option maxHeartbeats 8000000 in
set_option maxRecDepth 100000 in
theorem opText_any (l : List Nat) (p : Option Addr) (len cap : Nat) (wide : Bool) (m : Int) (w : World) (hlen : len ≤ cap) (_hcap : cap ≤ 9223372036854775807) (hl : l.length = min len 20) (hx : ∀ x ∈ l, x < 65536)
    (hrow : ∀ j (h : j < l.length), ∃ ad : Addr, p = some ad ∧ (ad.add j).block < w.heap.size ∧ w.cell? (ad.add j) = some (.int .u16 ((l[j]'h : Nat) : Int)))
    (hm : w.cell? ⟨2, 0, none⟩ = some (.int .i64 m)) :
    Calls Tryd.prog 7 #[.slice p len cap, .bool wide] w fun e w' => e = .returned (.bool true) ∧ Below w.heap.size w w' := by
  have hms := cell_lt hm
  have Hm := Lib.hid hm; clear hm
  have Hrow := Lib.hid hrow; clear hrow
  have Hx := Lib.hid hx; clear hx
  go_enter Tryd.func7, Tryd.ntmps7
  go_wp2_with fail
  refine (examples_any m _ Hm.out).mono ?_
  rintro e w1 ⟨rfl, hb1⟩
  have hs1 := hb1.size
  have HB1 := Lib.hid hb1; clear hb1
  go_wp2_with fail
  have hn : (min (len : Int) 20).toNat = l.length := by omega
  have hn20 : l.length ≤ 20 := by omega
  rw [hn]
  have Hl := Lib.hid (And.intro hl hn); clear hl hn
  obtain ⟨i0, hi0, hz0, hz1, hz2⟩ := info_parts (show (Tryd.prog.info? 5).map (fun i => (i.zero, i.size, i.bytes)) = some (some (.int .u8 0), 1, 1) by kernel_rfl)
  go_loopw [6, 7] (fun vo vi wr => ∃ i : Nat, vi = .int .i64 i ∧ i ≤ l.length ∧ wr.ownsRow w1.heap.size 5 1 vo (encs wide (l.take i)).length (bytesV (encs wide (l.take i))) ∧ Below w.heap.size w wr ∧ w1.heap.size ≤ wr.heap.size) (fun _ vi _ => l.length - (intOf vi).toNat)
  case atStart => exact ⟨0, rfl, by omega, ⟨by simp [encs, bytesV], .inl ⟨rfl, rfl⟩⟩, HB1.out, Nat.le_refl _⟩
  case round =>
    obtain ⟨i, rfl, hi, hown, hb, hsz⟩ := hrel
    by_cases hlt : i < l.length
    · obtain ⟨ad, rfl, hbw, hcell⟩ := Hrow.out i hlt
      have x0 := hb.cell (p := ad.add i) hbw
      rw [hcell] at x0
      obtain ⟨x, hxe⟩ : ∃ x, x = l[i]'hlt := ⟨_, rfl⟩
      have hx16 : x < 65536 := by rw [hxe]; exact Hx.out _ (List.getElem_mem _)
      rw [← hxe] at x0
      have hstep := Lib.hid (encs_take (wide := wide) hlt)
      rw [← hxe] at hstep
      clear hxe hcell
      have hel : (encs wide (l.take i)).length ≤ 60 := by have := encs_length wide (l.take i); rw [List.length_take] at this; omega
      have hsz' : w.heap.size ≤ wr.heap.size := hb.size
      cases wide
      · go_wp2_with (at_builtin; refine wpList_append_own _ rfl _ _ 42 rfl w1.heap.size 5 i0 (.int .u8 0) 1 1 Tryd.underlying42 hi0 hz0 hz1 hz2 rfl (by decide) _ _ _ rfl (hown.alloc _) ⟨wr.heap.size, 0, none⟩ 2 2 [.int .u8 96, .int .u8 _] rfl rfl (fresh_cells wr _ _) (two_ints _ _ _) (by unfold Go.maxLen; omega) (by omega) (by simp; omega) ?_)
        intro v' w2 hown2 hgrow _
        have HB2 : Below w.heap.size w w2 := below_grown_own (hb.alloc hsz' _) (ownsRow_less (hown.alloc _) hs1) hgrow (by simp; omega)
        have HR : Hid (w2.ownsRow w1.heap.size 5 1 v' (encs false (l.take (i + 1))).length (bytesV (encs false (l.take (i + 1))))) := by
          show World.ownsRow _ _ _ _ _ _ _
          rw [hstep.out, show (encs false (l.take i) ++ enc false x).length = (encs false (l.take i)).length + 2 from by simp [enc]]
          rw [show bytesV (encs false (l.take i) ++ enc false x) = bytesV (encs false (l.take i)) ++ [.int .u8 96, .int .u8 ((x : Int) % 256)] from by
            unfold bytesV; rw [List.map_append]; congr 1; simp [enc]]
          exact hown2
        have HB3 := Lib.hid HB2
        have hsz2 : w1.heap.size ≤ w2.heap.size := by have := hgrow.size; simp at this; omega
        clear hown2 hgrow HB2 hown
        go_wp2_with fail
        exact ⟨⟨i + 1, by go_num, by omega, HR.out, HB3.out, hsz2⟩, by simp [intOf]; omega⟩
      · have q0 : 0 ≤ (i : Int) := by omega
        have q4 : (i : Int) < (l.length : Int) := by omega
        go_wp2_with fail
        go_region_law (refine step_append_lies _ rfl _ _ 42 rfl w1.heap.size 5 i0 (.int .u8 0) 1 1 Tryd.underlying42 hi0 hz0 hz1 hz2 rfl (by decide) _ _ _ rfl (ownsRow_drew (hown.alloc _)) ⟨wr.heap.size, 0, none⟩ 3 3 [.int .u8 97, .int .u8 _, .int .u8 _] rfl rfl (fresh_cells wr _ _) (three_ints _ _ _ _) (by decide) (by unfold Go.maxLen; omega) (by omega) (by simp; omega) (wr.heap.size + 1) (by simp) ?_; intro gg cap' w2 hown2 hgrow hat hlt2)
        all_goals
          have HR : Hid (w2.ownsRow w1.heap.size 5 1 (.slice (some ⟨gg, 0, none⟩) ((encs true (l.take i)).length + 3) cap') (encs true (l.take (i + 1))).length (bytesV (encs true (l.take (i + 1))))) := by
            show World.ownsRow _ _ _ _ _ _ _
            rw [hstep.out, show (encs true (l.take i) ++ enc true x).length = (encs true (l.take i)).length + 3 from by simp [enc]]
            rw [show bytesV (encs true (l.take i) ++ enc true x) = bytesV (encs true (l.take i)) ++ [.int .u8 97, .int .u8 (IntKind.u8.wrap ((x : Int) / 256)), .int .u8 (IntKind.u8.wrap (x : Int))] from by
              unfold bytesV; rw [List.map_append]; congr 1
              rw [show (x : Int) / 256 = ((x / 256 : Nat) : Int) from by omega, wrap_u8, wrap_u8]
              simp [enc]]
            exact hown2
          have HB3 : Hid (Below w.heap.size w w2) := below_grown_own (hb.alloc hsz' _) (ownsRow_less (hown.alloc _) hs1) (hgrow.of_drew) (by simp; omega)
          have hsz2 : w1.heap.size ≤ w2.heap.size := by have := hgrow.size; simp at this; omega
          clear hown2 hgrow hown hat hlt2
          go_wp2_with fail
          exact ⟨⟨i + 1, by go_num, by omega, HR.out, HB3.out, hsz2⟩, by simp [intOf]; omega⟩
    · have hil : i = l.length := by omega
      rw [List.take_of_length_le (by omega)] at hown
      obtain ⟨wo, rfl⟩ : ∃ wo, wo = wr := ⟨_, rfl⟩
      have hconv := convert_own hown
      have hel := encs_length wide l
      obtain ⟨E, hE⟩ : ∃ E : ByteArray, E = ⟨(encs wide l).toArray⟩ := ⟨_, rfl⟩
      have hEz : E.size ≤ 60 := by rw [hE]; show (encs wide l).toArray.size ≤ 60; rw [List.size_toArray]; omega
      rw [← hE] at hconv
      have HE := Lib.hid hE; clear hE
      have HW := Lib.hid hb; clear hb hown hel
      go_wp2_with fail
      have hSz : (E ++ (⟨#[1, 12]⟩ : ByteArray)).size < 5000 := by rw [ByteArray.size_append]; show E.size + 2 < 5000; omega
      have hSl : (E ++ (⟨#[1, 12]⟩ : ByteArray)).data.toList = encs wide l ++ [1, 12] := by rw [HE.out]; simp
      have hm1 : wo.cell? ⟨2, 0, none⟩ = some (.int .i64 m) := by rw [HW.out.cell (p := ⟨2, 0, none⟩) hms]; exact Hm.out
      refine (text_any (E ++ (⟨#[1, 12]⟩ : ByteArray)) m wo hm1 hSz).mono ?_
      rintro e w2 ⟨vt, rfl, ht, hb2⟩
      have htl : textOf (E ++ (⟨#[1, 12]⟩ : ByteArray)).data.toList (begins (E ++ (⟨#[1, 12]⟩ : ByteArray)).data.toList) = l.map (word wide) ++ [[65, 68, 68], [63, 48, 99]] := by
        rw [hSl]; exact told_encs wide l
      have hbl : (begins (E ++ (⟨#[1, 12]⟩ : ByteArray)).data.toList).length = l.length + 2 := by
        have := congrArg List.length htl
        simpa [textOf] using this
      rw [htl, hbl] at ht
      clear htl hbl hSl hSz hm1
      obtain ⟨g, ct, rfl, _, hg2, hct, hx⟩ := own_cells ht (by omega)
      have HX := Lib.hid hx; clear hx ht
      have hB2 := Lib.hid (HW.out.trans (hb2.mono HW.out.size))
      have x0 : w2.cell? ⟨g, l.length, none⟩ = some (.string ⟨#[65, 68, 68]⟩) := HX.out _ _ (by simp [strs'])
      have x1 : w2.cell? ⟨g, l.length + 1, none⟩ = some (.string ⟨#[63, 48, 99]⟩) := HX.out _ _ (by simp [strs'])
      clear hb2 hconv
      go_wp2_with fail
      go_loopw [10] (fun vi wr => ∃ j : Nat, vi = .int .i64 j ∧ j ≤ l.length ∧ Hid (Below w2.heap.size w2 wr)) (fun vi _ => l.length - (intOf vi).toNat)
      case atStart => exact ⟨0, rfl, by omega, Below.refl _ _⟩
      case round =>
        obtain ⟨j, rfl, hj, HQ⟩ := hrel
        by_cases hlj : j < l.length
        · obtain ⟨ad, rfl, hbw, hcell⟩ := Hrow.out j hlj
          have hword : wr.cell? ⟨g, j, none⟩ = some (.string ⟨(word wide (l[j]'hlj)).toArray⟩) := by
            rw [HQ.out.cell (p := ⟨g, j, none⟩) hg2]
            refine HX.out _ _ ?_
            unfold strs'
            rw [List.getElem?_map, List.getElem?_append_left (by simpa using hlj)]
            simp [hlj]
          have xc : wr.cell? (ad.add j) = some (.int .u16 ((l[j]'hlj : Nat) : Int)) := by
            rw [HQ.out.cell (p := ad.add j) (by have := hB2.out.size; omega), hB2.out.cell (p := ad.add j) hbw]; exact hcell
          obtain ⟨x, hxe⟩ : ∃ x, x = l[j]'hlj := ⟨_, rfl⟩
          have hx16 : x < 65536 := by rw [hxe]; exact Hx.out _ (List.getElem_mem _)
          rw [← hxe] at xc hword
          clear hxe hcell
          obtain ⟨p1, hp1⟩ : ∃ p : Nat, p = x / 16 % 16 := ⟨_, rfl⟩
          obtain ⟨p0, hp0⟩ : ∃ p : Nat, p = x % 16 := ⟨_, rfl⟩
          have p1l : p1 < 16 := by omega
          have p0l : p0 < 16 := by omega
          have a1 : bits .and .u16 ((x : Int) / 16) 15 = (p1 : Int) := by rw [show (x : Int) / 16 = ((x / 16 : Nat) : Int) from by omega, and15 _ (by omega), hp1]
          have a0 : bits .and .u16 (x : Int) 15 = (p0 : Int) := by rw [and15 _ hx16, hp0]
          have w1' : IntKind.u16.wrap ((p1 : Int) + 1) = (p1 : Int) + 1 := IntWalk.u16_in _ ⟨by omega, by omega⟩
          have w0' : IntKind.u16.wrap ((p0 : Int) + 1) = (p0 : Int) + 1 := IntWalk.u16_in _ ⟨by omega, by omega⟩
          have HP := Lib.hid (And.intro hp1 hp0); clear hp1 hp0
          cases wide
          · rw [word_narrow x hx16, ← HP.out.1, ← HP.out.2] at hword
            unfold Dg at hword
            go_wp2_with fail
            go_quiet (fail)
            go_wp2_with fail
            exact ⟨⟨j + 1, by go_num, by omega, below_drawn HQ.out _⟩, by simp [intOf]; omega⟩
          · obtain ⟨p3, hp3⟩ : ∃ p : Nat, p = x / 4096 := ⟨_, rfl⟩
            obtain ⟨p2, hp2⟩ : ∃ p : Nat, p = x / 256 % 16 := ⟨_, rfl⟩
            have p3l : p3 < 16 := by omega
            have p2l : p2 < 16 := by omega
            have a3 : (x : Int) / 4096 = (p3 : Int) := by omega
            have a2 : bits .and .u16 ((x : Int) / 256) 15 = (p2 : Int) := by rw [show (x : Int) / 256 = ((x / 256 : Nat) : Int) from by omega, and15 _ (by omega), hp2]
            have w3' : IntKind.u16.wrap ((p3 : Int) + 1) = (p3 : Int) + 1 := IntWalk.u16_in _ ⟨by omega, by omega⟩
            have w2' : IntKind.u16.wrap ((p2 : Int) + 1) = (p2 : Int) + 1 := IntWalk.u16_in _ ⟨by omega, by omega⟩
            rw [word_wide x hx16, ← HP.out.1, ← HP.out.2, ← hp3, ← hp2] at hword
            unfold Dg at hword
            clear hp3 hp2
            go_wp2_with fail
            go_quiet (fail)
            go_wp2_with fail
            go_quiet (fail)
            go_wp2_with fail
            exact ⟨⟨j + 1, by go_num, by omega, below_drawn HQ.out _⟩, by simp [intOf]; omega⟩
        · go_wp2_with fail
          go_ret
          exact ⟨rfl, hB2.out.trans (HQ.out.mono hB2.out.size)⟩
end Go.Proofs.YtnachjhhbhhpoaaDoor
