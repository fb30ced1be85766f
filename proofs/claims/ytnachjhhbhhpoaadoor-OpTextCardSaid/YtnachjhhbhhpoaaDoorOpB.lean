/-
  strconv.ParseUint of two sixteenths, base 16, eight bits: the number.
-/
import Derived.Test.YtnachjhhbhhpoaaDoorOpA
import Derived.Lib.ConvBytes
import Derived.Lib.Walk
import Derived.Laws.Strings3
import Derived.BigCall
import Derived.BigGuard
namespace Go.Proofs.YtnachjhhbhhpoaaDoor
open Go.RowKit
/-- A sixteenth's value. -/
def hexv (c : Nat) : Nat := if c ≤ 57 then c - 48 else c - 87
/-- Is a byte a sixteenth, told small? -/
def isHex (c : Nat) : Prop := (48 ≤ c ∧ c ≤ 57) ∨ (97 ≤ c ∧ c ≤ 102)
instance (c : Nat) : Decidable (isHex c) := by unfold isHex; infer_instance
theorem hexv_lt {c : Nat} (h : isHex c) : hexv c < 16 := by
  unfold isHex at h; unfold hexv; split <;> omega

theorem lower_bits : ∀ c : Nat, c < 103 → 97 ≤ c → bits .or .u8 (c : Int) 32 = c := by
  intro c h1 h2
  obtain rfl | rfl | rfl | rfl | rfl | rfl : c = 97 ∨ c = 98 ∨ c = 99 ∨ c = 100 ∨ c = 101 ∨ c = 102 := by omega
  all_goals decide

set_option maxHeartbeats 400000 in
theorem lower_any (c : Nat) (w : World) (h0 : 97 ≤ c) (h1 : c < 103) :
    Calls Tryd.prog 42 #[.int .u8 (c : Int)] w fun e w' => e = .returned (.int .u8 (c : Int)) ∧ w = w' := by
  have hb := lower_bits c h1 h0
  go_enter Tryd.func42, Tryd.ntmps42
  go_wp2
  go_ret
  exact ⟨rfl, rfl⟩

/-- The number of the first k of two sixteenths. -/
def hexTo (bs : List UInt8) (k : Nat) : Nat := (bs.take k).foldl (fun a c => a * 16 + hexv c.toNat) 0
theorem hexTo_succ (bs : List UInt8) (k : Nat) (h : k < bs.length) : hexTo bs (k + 1) = hexTo bs k * 16 + hexv (bs[k].toNat) := by
  unfold hexTo
  rw [List.take_succ_eq_append_getElem h, List.foldl_append]; rfl
theorem hexTo_lt (bs : List UInt8) (hh : ∀ c, c ∈ bs → isHex c.toNat) : ∀ k, k ≤ 1 → hexTo bs k < 16 := by
  intro k hk
  obtain rfl | rfl : k = 0 ∨ k = 1 := by omega
  · simp [hexTo]
  · cases bs with
    | nil => simp [hexTo]
    | cons c l => simp [hexTo]; exact hexv_lt (hh c (by simp))

set_option maxHeartbeats 32000000 in
set_option maxRecDepth 100000 in
theorem parseIn (t : ByteArray) (w : World) (hsz : t.size = 2) (hh : ∀ c, c ∈ t.data.toList → isHex c.toNat) :
    Calls Tryd.prog 35 #[.string t, .int .i64 16, .int .i64 8] w fun e w' =>
      e = .returned (.tuple #[.int .u64 (hexTo t.data.toList 2 : Int), .nilIface]) ∧ w' = Lib.bytesWorld w 5 t := by
  have hemp : t.toList.isEmpty = false := by
    rw [← decide_eq_emptyBytes]
    exact decide_eq_false (fun h => by rw [h] at hsz; simp [ByteArray.size] at hsz)
  have hcv := Lib.run_convert_string_bytes (P := Tryd.prog) w 9 42 5 t (u := .string) Tryd.underlying9 Tryd.underlying42 Tryd.underlying5
  rw [hsz] at hcv
  have hB : ∀ j, j < t.size → (Lib.bytesWorld w 5 t).cell? ⟨w.heap.size, j, none⟩ = some (.int .u8 (t.data.toList.getD j 0).toNat) := fun j hj => Lib.bytesWorld_cell w 5 t j hj
  obtain ⟨W1, hW1⟩ : ∃ W1, W1 = Lib.bytesWorld w 5 t := ⟨_, rfl⟩
  rw [← hW1] at hcv hB ⊢
  clear hW1
  obtain ⟨bs, hL⟩ : ∃ bs, bs = t.data.toList := ⟨_, rfl⟩
  have hLn : bs.length = t.size := by rw [hL]; rfl
  rw [← hL] at hB hh ⊢
  clear hL
  rw [hsz] at hB hLn
  have Hsz := Lib.hid hsz; clear hsz
  have HLn := Lib.hid hLn; clear hLn
  have Hfin : Hid (hexTo bs 2 < 256) := by
    have hL := HLn.out
    have h1 := hexTo_lt bs hh 1 (by omega)
    have h2 : hexTo bs 2 = hexTo bs 1 * 16 + hexv (bs[1].toNat) := hexTo_succ bs 1 (by omega)
    have h3 := hexv_lt (hh bs[1] (List.getElem_mem _))
    exact (by omega : hexTo bs 2 < 256)
  go_enter Tryd.func35, Tryd.ntmps35
  go_wp2
  go_loop [12, 13, 101] (fun vu vn vi => ∃ (k : Nat) (a : Int), vu = .bool false ∧ vn = .int .u64 a ∧ vi = .int .i64 k ∧ k ≤ 2 ∧ Hid (a = (hexTo bs k : Int)))
    (fun _ _ vi => 2 - (intOf vi).toNat)
  case atStart => exact ⟨0, 0, rfl, rfl, rfl, by omega, rfl⟩
  case round =>
    obtain ⟨k, a, rfl, rfl, rfl, hk, hha⟩ := hrel
    by_cases hkn : k < 2
    · have hc := hB k hkn
      have hL := HLn.out
      have hget : bs.getD k 0 = bs[k]'(by omega) := by simp [List.getD, List.getElem?_eq_getElem (show k < bs.length by omega)]
      rw [hget] at hc
      have hsucc := hexTo_succ bs k (by omega)
      have hlt := hexTo_lt bs hh k (by omega)
      have hx := hh (bs[k]'(by omega)) (List.getElem_mem _)
      generalize bs[k]'(by omega) = c at hc hsucc hx hget
      have ha := hha.out
      have a0 : 0 ≤ a := by omega
      have a1 : a < 16 := by omega
      have Hs : Hid (hexTo bs (k + 1) = hexTo bs k * 16 + hexv c.toNat) := hsucc
      have hx16 := hexv_lt hx
      clear hget hL hsucc ha hlt hB
      by_cases hd : c.toNat ≤ 57
      · have hd0 : 48 ≤ c.toNat := by unfold isHex at hx; omega
        have HN : Hid (a * 16 + ((c.toNat : Int) - 48) = (hexTo bs (k + 1) : Int)) := by
          have h1 := Hs.out; have h2 := hha.out
          unfold hexv at h1; rw [if_pos hd] at h1
          exact (by omega : a * 16 + ((c.toNat : Int) - 48) = (hexTo bs (k + 1) : Int))
        have HM : a * 16 + ((c.toNat : Int) - 48) < 256 := by
          unfold hexv at hx16; rw [if_pos hd] at hx16; omega
        clear hx16 hx hh Hs
        go_wp2
        exact ⟨⟨k + 1, _, rfl, rfl, by go_num, by omega, HN⟩, by simp [intOf]; omega⟩
      · have hd0 : 97 ≤ c.toNat ∧ c.toNat < 103 := by unfold isHex at hx; omega
        obtain ⟨hd1, hd2⟩ := hd0
        have HN : Hid (a * 16 + ((c.toNat : Int) - 97 + 10) = (hexTo bs (k + 1) : Int)) := by
          have h1 := Hs.out; have h2 := hha.out
          unfold hexv at h1; rw [if_neg hd] at h1
          exact (by omega : a * 16 + ((c.toNat : Int) - 97 + 10) = (hexTo bs (k + 1) : Int))
        have HM : a * 16 + ((c.toNat : Int) - 97 + 10) < 256 := by
          unfold hexv at hx16; rw [if_neg hd] at hx16; omega
        have hd57 : 57 < c.toNat := by omega
        clear hx16 hx hh Hs hd
        go_wp2_with (go_at_call 42; refine (lower_any _ _ (by omega) (by omega)).mono ?_; rintro e w' ⟨rfl, rfl⟩)
        exact ⟨⟨k + 1, _, rfl, rfl, by go_num, by omega, HN⟩, by simp [intOf]; omega⟩
    · have hkk : k = 2 := by omega
      subst hkk
      go_wp2
      go_ret2
      have he : Ending.returned (.tuple #[.int .u64 a, .nilIface]) = .returned (.tuple #[.int .u64 (hexTo bs 2 : Int), .nilIface]) := by rw [hha.out]
      exact ⟨he, rfl⟩

set_option maxHeartbeats 1000000 in
set_option maxRecDepth 100000 in
theorem parse_any (t : ByteArray) (w : World) (hsz : t.size = 2) (hh : ∀ c, c ∈ t.data.toList → isHex c.toNat) :
    Calls Tryd.prog 28 #[.string t, .int .i64 16, .int .i64 8] w fun e w' =>
      e = .returned (.tuple #[.int .u64 (hexTo t.data.toList 2 : Int), .nilIface]) ∧ w' = Lib.bytesWorld w 5 t := by
  have H := Lib.hid (parseIn t w hsz hh); clear hsz hh
  go_enter Tryd.func28, Tryd.ntmps28
  go_wp2_with (go_at_call 35; refine (H.out).mono ?_; rintro e w' ⟨rfl, rfl⟩)
  go_ret2
  exact ⟨rfl, rfl⟩
end Go.Proofs.YtnachjhhbhhpoaaDoor
