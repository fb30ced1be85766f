/-
  Plain facts on the groups' names: how they are cut, and which rows of the table they are.
-/
import Derived.Test.YtnachjhhbhhpoaaDoorOpC
import Derived.Lib.Split
import Derived.Lib.ItoaNum
namespace Go.Proofs.YtnachjhhbhhpoaaDoor
namespace Opx
/-- A text, cut at a byte. -/
def cutAt (c : UInt8) : List UInt8 → List (List UInt8)
  | [] => [[]]
  | b :: l => if b == c then [] :: cutAt c l else match cutAt c l with
    | h :: t => (b :: h) :: t
    | [] => [[b]]
theorem cutAt_ne (c : UInt8) (l : List UInt8) : cutAt c l ≠ [] := by
  cases l with
  | nil => simp [cutAt]
  | cons b l => unfold cutAt; split <;> (try split) <;> simp
theorem isPrefixOf_one (c b : UInt8) (l : List UInt8) : List.isPrefixOf [c] (b :: l) = (c == b) := by simp [List.isPrefixOf]
theorem cutAt_miss (c : UInt8) (l : List UInt8) (h : Lib.index l [c] = -1) : cutAt c l = [l] := by
  induction l with
  | nil => rfl
  | cons b l ih =>
    have hge : -1 ≤ Lib.index l [c] := Lib.index_ge l [c]
    unfold Lib.index at h
    rw [isPrefixOf_one] at h
    by_cases e : c = b
    · subst e; simp at h
    · have e1 : (c == b) = false := by simpa using e
      have e2 : (b == c) = false := by simpa using fun e' => e e'.symm
      rw [e1] at h
      simp only [Bool.false_eq_true, if_false] at h
      by_cases h' : Lib.index l [c] = -1
      · unfold cutAt; rw [e2, ih h']; rfl
      · rw [if_neg (by simpa using h')] at h; omega
theorem cutAt_hit (c : UInt8) (l : List UInt8) (i : Nat) (h : Lib.index l [c] = i) : cutAt c l = l.take i :: cutAt c (l.drop (i + 1)) := by
  induction l generalizing i with
  | nil => unfold Lib.index at h; simp at h
  | cons b l ih =>
    have hge : -1 ≤ Lib.index l [c] := Lib.index_ge l [c]
    unfold Lib.index at h
    rw [isPrefixOf_one] at h
    by_cases e : c = b
    · subst e
      simp at h
      obtain rfl : i = 0 := by omega
      simp [cutAt]
    · have e1 : (c == b) = false := by simpa using e
      have e2 : (b == c) = false := by simpa using fun e' => e e'.symm
      rw [e1] at h
      simp only [Bool.false_eq_true, if_false] at h
      by_cases h' : Lib.index l [c] = -1
      · rw [if_pos (by simpa using h')] at h; omega
      · rw [if_neg (by simpa using h')] at h
        obtain ⟨j, rfl⟩ : ∃ j, i = j + 1 := ⟨i - 1, by omega⟩
        have := ih j (by omega)
        rw [cutAt, e2, this]
        simp
theorem splitK_cutAt (c : UInt8) : ∀ (n : Nat) (l : List UInt8), l.length ≤ n → Lib.splitK [c] 0 (Lib.count l [c]) l = cutAt c l := by
  intro n
  induction n with
  | zero =>
    intro l hl
    have : l = [] := List.length_eq_zero_iff.1 (by omega)
    subst this
    rw [Lib.count_miss (by rfl)]; rfl
  | succ n ih =>
    intro l hl
    by_cases h : Lib.index l [c] = -1
    · rw [Lib.count_miss h, cutAt_miss c l h]; rfl
    · have hge : -1 ≤ Lib.index l [c] := Lib.index_ge l [c]
      obtain ⟨i, hi⟩ : ∃ i : Nat, Lib.index l [c] = i := ⟨(Lib.index l [c]).toNat, by omega⟩
      have hlt : l.length ≠ 0 := by
        intro e
        have : l = [] := List.length_eq_zero_iff.1 e
        subst this
        exact h rfl
      rw [Lib.count_hit (by simp) hi, cutAt_hit c l i hi]
      rw [Nat.add_comm 1]
      unfold Lib.splitK
      rw [if_neg (by rw [hi]; simp)]
      rw [hi]
      simp only [Int.toNat_natCast, Nat.add_zero, List.length_cons, List.length_nil, Nat.zero_add]
      rw [ih _ (by simp; omega)]
theorem count_cutAt (c : UInt8) : ∀ (n : Nat) (l : List UInt8), l.length ≤ n → Lib.count l [c] + 1 = (cutAt c l).length := by
  intro n
  induction n with
  | zero =>
    intro l hl
    have : l = [] := List.length_eq_zero_iff.1 (by omega)
    subst this
    rw [Lib.count_miss (by rfl)]; rfl
  | succ n ih =>
    intro l hl
    by_cases h : Lib.index l [c] = -1
    · rw [Lib.count_miss h, cutAt_miss c l h]; rfl
    · have hge : -1 ≤ Lib.index l [c] := Lib.index_ge l [c]
      obtain ⟨i, hi⟩ : ∃ i : Nat, Lib.index l [c] = i := ⟨(Lib.index l [c]).toNat, by omega⟩
      have hlt : l.length ≠ 0 := by
        intro e
        have : l = [] := List.length_eq_zero_iff.1 e
        subst this
        exact h rfl
      rw [Lib.count_hit (by simp) hi, cutAt_hit c l i hi]
      simp only [List.length_cons, List.length_nil, Nat.zero_add]
      rw [← ih (l.drop (i + 1)) (by simp; omega)]
      omega
theorem split_cutAt (s : ByteArray) (c : UInt8) : (Lib.splitB ⟨#[c]⟩ 0 (Lib.countB s ⟨#[c]⟩) s).map (fun s => s.data.toList) = cutAt c s.data.toList := by
  rw [Lib.splitB_data]
  exact splitK_cutAt c _ _ (Nat.le_refl _)
def toks (k : Nat) : List (List UInt8) := match G[k]? with | some g => cutAt 32 g.name | none => []
/-- The rows ahead of group k. -/
def base (k : Nat) : Nat := ((G.take k).map fun g => (cutAt 32 g.name).length / 2).sum
def gname (k : Nat) : List UInt8 := (G[k]?.getD ⟨[], 0, 0, 0⟩).name
theorem split_toks (k : Nat) (h : k < 24) : (Lib.splitB ⟨#[32]⟩ 0 (Lib.countB ⟨(gname k).toArray⟩ ⟨#[32]⟩) ⟨(gname k).toArray⟩).map (fun s => s.data.toList) = toks k := by
  rw [split_cutAt]
  have hk : k < G.length := h
  simp [toks, gname, hk]
theorem count_toks (k : Nat) (h : k < 24) : Lib.countB ⟨(gname k).toArray⟩ ⟨#[32]⟩ + 1 = (toks k).length := by
  have hk : k < G.length := h
  have := count_cutAt 32 _ (gname k) (Nat.le_refl _)
  simp only [gname, hk, List.getElem?_eq_getElem, Option.getD_some] at this ⊢
  simpa [toks, hk, List.getElem?_eq_getElem] using this
set_option maxRecDepth 100000 in
theorem base_24 : base 24 = 75 := by decide +kernel
set_option maxRecDepth 100000 in
theorem base_succ : ∀ k, k < 24 → (toks k).length = 2 * (base (k + 1) - base k) ∧ base k ≤ base (k + 1) ∧ base (k + 1) ≤ 75 ∧ (toks k).length < 60 ∧ (G[k]?.getD ⟨[], 0, 0, 0⟩).name.length < 1000 := by decide +kernel
def tok (k j : Nat) : List UInt8 := (toks k)[j]?.getD []
def grp (k : Nat) : Inf := G[k]?.getD ⟨[], 0, 0, 0⟩
def rowOk (k i : Nat) : Bool := !decide (2 * i + 1 < (toks k).length) || (decide ((tok k (2 * i)).length = 2) && (tok k (2 * i)).all (fun x => decide (isHex x.toNat)) &&
  decide (T[base k + i]? = some (hexTo (tok k (2 * i)) 2, ⟨tok k (2 * i + 1), (grp k).gas, (grp k).inn, (grp k).out⟩)))
theorem rows_ok : ((List.range 24).all fun k => (List.range 30).all fun i => rowOk k i) = true := by kernel_rfl
/-- Each pair of a group's names is a row of the table. -/
theorem rows_of (k : Nat) (hk : k < 24) (i : Nat) (hi : i < 30) (h : 2 * i + 1 < (toks k).length) :
    (tok k (2 * i)).length = 2 ∧ (∀ x, x ∈ tok k (2 * i) → isHex x.toNat) ∧ T[base k + i]? = some (hexTo (tok k (2 * i)) 2, ⟨tok k (2 * i + 1), (grp k).gas, (grp k).inn, (grp k).out⟩) := by
  have h1 := List.all_eq_true.1 rows_ok k (by simpa using hk)
  have h2 := List.all_eq_true.1 h1 i (by simpa using hi)
  simp only [rowOk, h, decide_true, Bool.not_true, Bool.false_or, Bool.and_eq_true, decide_eq_true_eq, List.all_eq_true] at h2
  exact ⟨h2.1.1, h2.1.2, h2.2⟩
theorem rows_push : ∀ n, n < 32 → T[75 + n]? = some (96 + n, ⟨[80, 85, 83, 72] ++ Lib.decDigits (n + 1), 3, 0, 1⟩) := by decide +kernel
theorem rows_dup : ∀ n, n < 16 → T[107 + 2 * n]? = some (128 + n, ⟨[68, 85, 80] ++ Lib.decDigits (n + 1), 3, n + 1, n + 2⟩) := by decide +kernel
theorem rows_swap : ∀ n, n < 16 → T[107 + 2 * n + 1]? = some (144 + n, ⟨[83, 87, 65, 80] ++ Lib.decDigits (n + 1), 3, n + 2, n + 2⟩) := by decide +kernel
theorem rows_log : ∀ n, n < 5 → T[139 + n]? = some (160 + n, ⟨[76, 79, 71] ++ Lib.decDigits n, 375, n + 2, 0⟩) := by decide +kernel
def digL (n : Nat) : List UInt8 := if n < 10 then [UInt8.ofNat (48 + n)] else [UInt8.ofNat (48 + n / 10), UInt8.ofNat (48 + n % 10)]
theorem rrows_push : ∀ n, n < 33 → 1 ≤ n → RT[67 + n]? = some (95 + n, ⟨[80, 85, 83, 72] ++ digL n, 3, 0, 1⟩) := by decide +kernel
theorem rrows_dup : ∀ n, n < 17 → 1 ≤ n → RT[98 + 2 * n]? = some (127 + n, ⟨[68, 85, 80] ++ digL n, 3, n, n + 1⟩) := by decide +kernel
theorem rrows_swap : ∀ n, n < 17 → 1 ≤ n → RT[98 + 2 * n + 1]? = some (143 + n, ⟨[83, 87, 65, 80] ++ digL n, 3, n + 1, n + 1⟩) := by decide +kernel
theorem rrows_log : ∀ n, n < 5 → RT[132 + n]? = some (160 + n, ⟨[76, 79, 71] ++ digL n, 375, n + 2, 0⟩) := by decide +kernel
end Opx
end Go.Proofs.YtnachjhhbhhpoaaDoor
