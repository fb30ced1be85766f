/-
  op.hex, stithyref12.Hex: a text's sixteenths.
-/
import Derived.Test.YtnachjhhbhhpoaaDoorOpI
import Derived.Lib.ConvBytes
import Derived.Deep.QuietTactic
import Derived.BigQuiet
namespace Go.Proofs.YtnachjhhbhhpoaaDoor
open Go.RowKit Go.Shelf
/-- A sixteenth's digit. -/
def hdig (n : Nat) : UInt8 := if n < 10 then UInt8.ofNat (48 + n) else UInt8.ofNat (87 + n)
/-- A text's sixteenths. -/
def hexOf (l : List UInt8) : List UInt8 := l.flatMap fun c => [hdig (c.toNat / 16), hdig (c.toNat % 16)]
theorem hexOf_length (l : List UInt8) : (hexOf l).length = 2 * l.length := by
  induction l with
  | nil => rfl
  | cons c l ih => unfold hexOf at ih ⊢; rw [List.flatMap_cons, List.length_append, ih]; simp; omega

theorem below_bytes (w : World) (e : TypeId) (s : ByteArray) : Below w.heap.size w (Lib.bytesWorld w e s) :=
  ⟨rfl, rfl, rfl, by rw [Lib.bytesWorld_size]; omega, fun k hk => Lib.bytesWorld_at_old w e s k hk⟩
theorem hexOf_take (bs : List UInt8) (k : Nat) (h : k < bs.length) : hexOf (bs.take (k + 1)) = hexOf (bs.take k) ++ [hdig (bs[k].toNat / 16), hdig (bs[k].toNat % 16)] := by
  unfold hexOf
  rw [List.take_succ_eq_append_getElem h, List.flatMap_append]; simp
theorem hdig_get : ∀ n, n < 16 → ([48, 49, 50, 51, 52, 53, 54, 55, 56, 57, 97, 98, 99, 100, 101, 102] : List UInt8)[n]? = some (hdig n) := by decide
theorem byteCells_two (l : List UInt8) (a b : UInt8) : Lib.byteCells (l ++ [a, b]) = Lib.byteCells l ++ [.int .u8 (a.toNat : Int), .int .u8 (b.toNat : Int)] := by simp [Lib.byteCells]
theorem hex_cut (i : Nat) (h : i < 16) : ({ data := #[48, 49, 50, 51, 52, 53, 54, 55, 56, 57, 97, 98, 99, 100, 101, 102] } : ByteArray).extract i (i + 1) = ⟨#[hdig i]⟩ := by
  have : ∀ i : Fin 16, (({ data := #[48, 49, 50, 51, 52, 53, 54, 55, 56, 57, 97, 98, 99, 100, 101, 102] } : ByteArray).extract i.1 (i.1 + 1)).data = #[hdig i.1] := by decide +kernel
  exact ByteArray.ext (this ⟨i, h⟩)
theorem below_drawn {B : Nat} {a w : World} (h : Below B a w) (n : Nat) : Below B a (w.drewN n) := ⟨h.os, h.tape, h.output, h.size, h.block⟩
theorem hdig_at (i : Nat) (h : i < 16) : ({ data := #[48, 49, 50, 51, 52, 53, 54, 55, 56, 57, 97, 98, 99, 100, 101, 102] } : ByteArray)[i]'h = hdig i := by
  have : ∀ i : Fin 16, ({ data := #[48, 49, 50, 51, 52, 53, 54, 55, 56, 57, 97, 98, 99, 100, 101, 102] } : ByteArray)[i.1]'(i.2) = hdig i.1 := by decide
  exact this ⟨i, h⟩
theorem bld_is {R b : Nat} {bs : List Value} {w : World} (h : Bld R b bs w) : Lib.IsBuilder 70 5 b b bs w := by
  have key : ∀ p, BldAt R b p bs w → Lib.BuilderAt 70 5 b b p bs w := by
    rintro p ⟨hR, v, hb, h1, h2⟩
    refine ⟨Nat.le_refl _, v, hb, ⟨h1, ?_⟩, ?_⟩
    · rcases h2 with h2 | ⟨g, cap, cur, h3, h4, h5⟩
      · exact .inl h2
      · exact .inr ⟨g, cap, cur, h3, by omega, h5⟩
    · rcases h2 with ⟨rfl, _⟩ | ⟨g, cap, cur, rfl, h4, _⟩
      · simp [Value.ownBlock]
      · simp [Value.ownBlock]; omega
  exact h.imp (key _) (key _)
set_option maxHeartbeats 4000000 in
set_option maxRecDepth 100000 in
theorem hex_any (s : ByteArray) (w : World) (hs : s.size ≤ 1000) :
    Calls Tryd.prog 24 #[.string s] w fun e w' => e = .returned (.string ⟨(hexOf s.data.toList).toArray⟩) ∧ Below w.heap.size w w' := by
  go_enter Tryd.func24, Tryd.ntmps24
  have hcv := fun W => Lib.run_convert_string_bytes (P := Tryd.prog) W 9 42 5 s (u := .string) Tryd.underlying9 Tryd.underlying42 Tryd.underlying5
  go_wp2_with fail
  clear hcv
  generalize grownCap (w.alloc (.cells #[.pointer none, .slice none 0 0] 70)) s.size 0 5 = cap0
  have hsz0 : (w.alloc (.cells #[.pointer none, .slice none 0 0] 70)).heap.size = w.heap.size + 1 := by simp
  obtain ⟨W0, hW0⟩ : ∃ W0, W0 = Lib.bytesWorld (w.alloc (.cells #[.pointer none, .slice none 0 0] 70)) 5 s := ⟨_, rfl⟩
  have hz0 : W0.heap.size = w.heap.size + 2 := by rw [hW0, Lib.bytesWorld_size, hsz0]
  have hbk0 : W0.heap[w.heap.size]? = some (.cells #[.pointer none, .slice none 0 0] 70 (0, 0)) := by
    rw [hW0, Lib.bytesWorld_at_old _ _ _ _ (by omega)]; exact (Go.MapKept.heap_alloc w _).1
  have hB0 : ∀ j, j < s.size → W0.cell? ⟨w.heap.size + 1, j, none⟩ = some (.int .u8 (s.data.toList.getD j 0).toNat) := fun j hj => by
    rw [hW0, ← hsz0]; exact Lib.bytesWorld_cell _ _ s j hj
  have hb0 : Below w.heap.size w W0 := by rw [hW0]; exact ((Below.refl _ _).alloc (Nat.le_refl _) _).trans ((below_bytes _ _ _).mono (by simp))
  rw [← hW0]
  clear hW0 hsz0
  obtain ⟨n, hn⟩ : ∃ n, n = s.size := ⟨_, rfl⟩
  have hn1 : n ≤ 1000 := by omega
  rw [← hn] at hB0 ⊢
  obtain ⟨bs, hbs⟩ : ∃ bs, bs = s.data.toList := ⟨_, rfl⟩
  have hbl : Hid (bs.length = n) := by rw [hbs, hn]; rfl
  rw [← hbs] at hB0
  have HB0 := Lib.hid hB0
  have Hbs := Lib.hid hbs
  have Hz0 := Lib.hid hz0
  have hI0 : Bld (w.heap.size + 2) w.heap.size (Lib.byteCells (hexOf (bs.take 0))) W0 := .inl ⟨by omega, _, hbk0, by simp [Lib.byteCells, hexOf], .inl ⟨rfl, rfl⟩⟩
  clear hbs hn hs hB0 hz0 hbk0
  go_loopw [9] (fun vi wr => ∃ k : Nat, vi = .int .i64 k ∧ k ≤ n ∧ Hid (Bld (w.heap.size + 2) w.heap.size (Lib.byteCells (hexOf (bs.take k))) wr) ∧ Hid (Keeps (w.heap.size + 2) w.heap.size W0 wr))
    (fun vi _ => n - (intOf vi).toNat)
  case atStart => exact ⟨0, rfl, by omega, hI0, Keeps.refl _ _ _⟩
  case round =>
    clear hI0
    obtain ⟨k, rfl, hk, HI, HK⟩ := hrel
    have hsr : w.heap.size + 2 ≤ wr.heap.size := by have := HK.out.size; have := Hz0.out; omega
    by_cases hkn : k < n
    · have hkl : k < bs.length := by rw [hbl.out]; exact hkn
      have hc : wr.cell? ⟨w.heap.size + 1, k, none⟩ = some (.int .u8 (bs[k].toNat : Int)) := by
        rw [World.cell?_of_block (w := W0) (HK.out.block _ (show w.heap.size + 1 < w.heap.size + 2 by omega) (show w.heap.size + 1 ≠ w.heap.size by omega)), HB0.out k hkn]
        simp [List.getD, hkl]
      have HT := Lib.hid (hexOf_take bs k hkl)
      have hlen : (hexOf (bs.take k)).length ≤ 2000 := by rw [hexOf_length]; have := List.length_take_le k bs; omega
      generalize bs[k] = c at hc HT
      have hc256 : c.toNat < 256 := c.toNat_lt
      have hw1 := writeByte_any (w.heap.size + 2) w.heap.size _ (hdig (c.toNat / 16)).toNat wr HI.out (by rw [Lib.byteCells_length]; omega) hsr
      have HW1 := Lib.hid hw1; clear hw1
      go_wp2_with fail
      rw [hdig_at _ (by omega)]
      refine HW1.out.mono ?_
      rintro e w2 ⟨rfl, hB2, hK2⟩
      have hw2 := fun c' => writeByte_any (w.heap.size + 2) w.heap.size _ c' w2 (.inr hB2) (by simp [Lib.byteCells_length]; omega) (by have := hK2.size; omega)
      have HW2 := fun c' => Lib.hid (hw2 c')
      have HK2 := Lib.hid hK2
      clear hw2 HW1 hB2 hK2
      go_wp2_with fail
      rw [hdig_at _ (by omega)]
      refine (HW2 _).out.mono ?_
      rintro e w3 ⟨rfl, hB3, hK3⟩
      have HB3 := Lib.hid hB3
      have HK3 := Lib.hid hK3
      clear HW2 hB3 hK3
      go_wp2_with fail
      refine ⟨⟨k + 1, by go_num, by omega, ?_, HK.out.trans (HK2.out.trans HK3.out)⟩, by simp [intOf]; omega⟩
      rw [HT.out]
      have := HB3.out
      simp only [List.append_assoc, List.cons_append, List.nil_append] at this
      exact .inr (by rw [byteCells_two]; exact this)
    · go_wp2_with fail
      have hkn' : k = n := by omega
      have hall : bs.take k = bs := List.take_of_length_le (by rw [hbl.out]; omega)
      have hfin := HI.out
      rw [hall] at hfin
      refine (Tryd.Builder_String_any w.heap.size w.heap.size (hexOf bs) wr (bld_is hfin) (by omega)).mono ?_
      rintro e w2 ⟨rfl, hb2⟩
      have Hb2 := Lib.hid hb2
      clear hb2 hfin hkn' hall
      go_wp2_with fail
      go_ret
      exact ⟨rets (by rw [Hbs.out]), hb0.trans (((HK.out.below (by omega)).mono (Nat.le_refl _)).trans Hb2.out)⟩

set_option maxHeartbeats 4000000 in
set_option maxRecDepth 100000 in
theorem refHex_any (s : ByteArray) (w : World) (hs : s.size ≤ 1000) :
    Calls Tryd.prog 25 #[.string s] w fun e w' => e = .returned (.string ⟨(hexOf s.data.toList).toArray⟩) ∧ Below w.heap.size w w' := by
  go_enter Tryd.func25, Tryd.ntmps25
  go_wp2_with fail
  have hn0 : s.data.toList.length = s.size := rfl
  have Hn0 := Lib.hid hn0; clear hn0
  go_loopw [3, 4] (fun vo vi wr => ∃ k : Nat, vi = .int .i64 k ∧ k ≤ s.size ∧ vo = .string (str (hexOf (s.data.toList.take k))) ∧ Hid (Below w.heap.size w wr))
    (fun _ vi _ => s.size - (intOf vi).toNat)
  case atStart => exact ⟨0, rfl, by omega, rfl, Below.refl _ _⟩
  case round =>
    obtain ⟨k, rfl, hk, rfl, HB⟩ := hrel
    by_cases hkn : k < s.size
    · have hkl : k < s.data.toList.length := by rw [Hn0.out]; exact hkn
      have HT := Lib.hid (hexOf_take s.data.toList k hkl)
      have hlen : (hexOf (s.data.toList.take k)).length ≤ 2000 := by rw [hexOf_length]; have := List.length_take_le k s.data.toList; omega
      have hlen' : (str (hexOf (s.data.toList.take k))).size ≤ 2000 := by rw [str_size]; exact hlen
      obtain ⟨o, ho⟩ : ∃ o, o = str (hexOf (s.data.toList.take k)) := ⟨_, rfl⟩
      rw [← ho] at hlen' ⊢
      have Ho := Lib.hid ho; clear ho
      have hsk : Hid ((s[k]'hkn).toNat = (s.data.toList[k]'hkl).toNat) := rfl
      have hc256 : ((s[k]'hkn).toNat : Int) < 256 := by have := (s[k]'hkn).toNat_lt; omega
      have hc0 : (0 : Int) ≤ ((s[k]'hkn).toNat : Int) := by omega
      go_wp2_with fail
      go_quiet (fail)
      go_wp2_with fail
      refine ⟨⟨k + 1, by go_num, by omega, ?_, below_drawn HB.out _⟩, by simp [intOf]; omega⟩
      rw [HT.out, hex_cut _ (by omega), hex_cut _ (by omega), Ho.out, hsk.out]
      exact congrArg Value.string (by apply ByteArray.ext; simp [str])
    · go_wp2_with fail
      go_ret
      have : k = s.size := by omega
      subst this
      rw [List.take_of_length_le (by rw [Hn0.out]; omega)]
      exact ⟨rfl, HB.out⟩
end Go.Proofs.YtnachjhhbhhpoaaDoor
