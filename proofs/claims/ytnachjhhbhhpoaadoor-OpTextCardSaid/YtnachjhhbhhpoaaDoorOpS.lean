/-
  The plain laws of OpJumps and OpText: behind a whole instruction more code has the places and the texts of its own.
-/
import Derived.Test.YtnachjhhbhhpoaaDoorOpL
namespace Go.Proofs.YtnachjhhbhhpoaaDoor
open Go.RowKit Go.Shelf
theorem byteAt_shift (p l : List UInt8) (i : Nat) : byteAt (p ++ l) (i + p.length) = byteAt l i := by
  unfold byteAt
  rw [List.getElem?_append_right (by omega)]; simp
theorem tail_shift (p l : List UInt8) (i : Nat) : tail (p ++ l) (i + p.length) = tail l i := by
  unfold tail; rw [byteAt_shift]
theorem starts_shift (p l : List UInt8) (f i : Nat) : starts (p ++ l) f (i + p.length) = (starts l f i).map (· + p.length) := by
  induction f generalizing i with
  | zero => rfl
  | succ f ih =>
    unfold starts
    by_cases h : i < l.length
    · rw [if_pos (by rw [List.length_append]; omega), if_pos h, tail_shift, List.map_cons, ← ih]
      congr 2; omega
    · rw [if_neg (by rw [List.length_append]; omega), if_neg h]; rfl
theorem starts_fuel (l : List UInt8) (f g i : Nat) (hf : l.length < f + i) (hg : l.length < g + i) : starts l f i = starts l g i := by
  induction f generalizing i g with
  | zero => rw [starts_past l 0 i (by omega), starts_past l g i (by omega)]
  | succ f ih =>
    cases g with
    | zero => rw [starts_past l _ i (by omega), starts_past l 0 i (by omega)]
    | succ g =>
      unfold starts
      by_cases h : i < l.length
      · rw [if_pos h, if_pos h, ih g _ (by omega) (by omega)]
      · rw [if_neg h, if_neg h]
theorem starts_lt (l : List UInt8) (f i : Nat) : ∀ x ∈ starts l f i, x < l.length := by
  induction f generalizing i with
  | zero => intro x hx; simp [starts] at hx
  | succ f ih =>
    intro x hx
    unfold starts at hx
    split at hx
    · rcases List.mem_cons.1 hx with rfl | hx
      · assumption
      · exact ih _ x hx
    · simp at hx
/-- A whole instruction ahead. -/
theorem begins_one (c : UInt8) (d l : List UInt8) (h : (pushN (c.toNat : Int)).toNat = d.length) : begins (c :: d ++ l) = 0 :: (begins l).map (· + (d.length + 1)) := by
  have hs := starts_shift (c :: d) l ((c :: d ++ l).length) 0
  rw [show starts l ((c :: d ++ l).length) 0 = begins l from starts_fuel _ _ _ _ (by simp; omega) (by omega)] at hs
  rw [show (c :: d).length = d.length + 1 from rfl] at hs
  rw [← hs]
  unfold begins
  rw [starts, if_pos (by simp)]
  congr 2
  unfold tail byteAt
  simp [h]; omega
theorem byteAt_zero (c : UInt8) (l : List UInt8) : byteAt (c :: l) 0 = c.toNat := rfl
theorem jumps_one (c : UInt8) (d l : List UInt8) (h : (pushN (c.toNat : Int)).toNat = d.length) (hc : c.toNat ≠ 91) :
    jumpsOf (c :: d ++ l) (begins (c :: d ++ l)) = (jumpsOf l (begins l)).map (· + (d.length + 1)) := by
  rw [begins_one c d l h]
  unfold jumpsOf
  rw [List.filter_cons, if_neg (by simpa [byteAt_zero] using hc), List.filter_map]
  congr 1
  apply List.filter_congr
  intro i _
  have := byteAt_shift (c :: d) l i
  simp only [Function.comp]
  rw [show (c :: d).length = d.length + 1 from rfl] at this
  rw [this]
theorem jump_at {l : List UInt8} {i : Nat} (h : i < (jumpsOf l (begins l)).length) : (jumpsOf l (begins l))[i]'h < l.length ∧ byteAt l ((jumpsOf l (begins l))[i]'h) = 91 := by
  have hm : (jumpsOf l (begins l))[i]'h ∈ (begins l).filter (fun i => byteAt l i == 91) := List.getElem_mem h
  obtain ⟨h1, h2⟩ := List.mem_filter.1 hm
  exact ⟨starts_lt _ _ _ _ h1, of_decide_eq_true h2⟩
/-- All of a text told. -/
def told (l : List UInt8) : List (List UInt8) := textOf l (begins l)
theorem get_shift (p l : List UInt8) (i : Nat) : (p ++ l)[i + p.length]? = l[i]? := by
  rw [List.getElem?_append_right (by omega)]; simp
theorem tell_shift (p l d : List UInt8) (i : Nat) : tell (p ++ l) (i + p.length) d = tell l i d := by
  unfold tell nameAt; rw [byteAt_shift, tail_shift, get_shift]
theorem dataAt_shift (p l : List UInt8) (i : Nat) : dataAt (p ++ l) (i + p.length) = dataAt l i := by
  unfold dataAt
  rw [tail_shift, show i + p.length + 1 = p.length + (i + 1) from by omega, ← List.drop_drop, List.drop_left]
theorem told_one (c : UInt8) (d l : List UInt8) (h : (pushN (c.toNat : Int)).toNat = d.length) : told (c :: d ++ l) = tell (c :: d) 0 d :: told l := by
  unfold told textOf
  rw [begins_one c d l h, List.map_cons, List.map_map]
  have ht : tail (c :: d ++ l) 0 = d.length := by unfold tail; rw [show byteAt (c :: d ++ l) 0 = c.toNat from rfl, h]
  have ht' : tail (c :: d) 0 = d.length := by unfold tail; rw [byteAt_zero, h]
  congr 1
  · have hd : dataAt (c :: d ++ l) 0 = d := by
      unfold dataAt; rw [ht]; simp
    rw [hd]
    unfold tell
    rw [ht, ht']
    rfl
  · apply List.map_congr_left
    intro i _
    simp only [Function.comp]
    rw [show d.length + 1 = (c :: d).length from rfl, dataAt_shift, tell_shift]
/-- A word pushed by one byte, by two. -/
def enc (wide : Bool) (x : Nat) : List UInt8 := if wide then [0x61, UInt8.ofNat (x / 256), UInt8.ofNat (x % 256)] else [0x60, UInt8.ofNat (x % 256)]
def encs (wide : Bool) (l : List Nat) : List UInt8 := l.flatMap (enc wide)
/-- What such a word is told as. -/
def word (wide : Bool) (x : Nat) : List UInt8 :=
  if wide then [80, 85, 83, 72, 50, 32, 48, 120] ++ hexOf [UInt8.ofNat (x / 256), UInt8.ofNat (x % 256)] else [80, 85, 83, 72, 49, 32, 48, 120] ++ hexOf [UInt8.ofNat (x % 256)]
theorem told_end : told [1, 12] = [[65, 68, 68], [63, 48, 99]] := by decide +kernel
theorem tell_push1 (a : UInt8) : tell [0x60, a] 0 [a] = [80, 85, 83, 72, 49, 32, 48, 120] ++ hexOf [a] := by
  unfold tell nameAt
  rw [show byteAt [0x60, a] 0 = 96 from rfl, show tail [0x60, a] 0 = 1 from by unfold tail; rw [show byteAt [0x60, a] 0 = 96 from rfl]; decide]
  rw [show known 96 = true from by decide +kernel, show (infOf 96).name = [80, 85, 83, 72, 49] from by decide +kernel]
  rfl
theorem tell_push2 (a b : UInt8) : tell [0x61, a, b] 0 [a, b] = [80, 85, 83, 72, 50, 32, 48, 120] ++ hexOf [a, b] := by
  unfold tell nameAt
  rw [show byteAt [0x61, a, b] 0 = 97 from rfl, show tail [0x61, a, b] 0 = 2 from by unfold tail; rw [show byteAt [0x61, a, b] 0 = 97 from rfl]; decide]
  rw [show known 97 = true from by decide +kernel, show (infOf 97).name = [80, 85, 83, 72, 50] from by decide +kernel]
  rfl
theorem told_encs (wide : Bool) (l : List Nat) : told (encs wide l ++ [1, 12]) = l.map (word wide) ++ [[65, 68, 68], [63, 48, 99]] := by
  induction l with
  | nil => exact told_end
  | cons x l ih =>
    unfold encs at ih ⊢
    rw [List.flatMap_cons, List.append_assoc, List.map_cons, List.cons_append, ← ih]
    cases wide
    · have h := told_one 0x60 [UInt8.ofNat (x % 256)] (List.flatMap (enc false) l ++ [1, 12]) (by rw [List.length_singleton]; decide)
      rw [tell_push1] at h
      exact h
    · have h := told_one 0x61 [UInt8.ofNat (x / 256), UInt8.ofNat (x % 256)] (List.flatMap (enc true) l ++ [1, 12]) (by rw [show ([UInt8.ofNat (x / 256), UInt8.ofNat (x % 256)] : List UInt8).length = 2 from rfl]; decide)
      rw [tell_push2] at h
      exact h
end Go.Proofs.YtnachjhhbhhpoaaDoor
