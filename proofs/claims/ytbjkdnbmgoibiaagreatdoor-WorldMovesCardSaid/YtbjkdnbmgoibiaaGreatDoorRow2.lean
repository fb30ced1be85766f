/-
  The row's wrap: words among the arguments.
-/
import Derived.Test.YtbjkdnbmgoibiaaGreatDoorRow
import Derived.Test.YtbjkdnbmgoibiaaGreatDoorWw
import Derived.Lib.SmallJoins
import Derived.Carry
namespace Go.Proofs.YtbjkdnbmgoibiaaGreatDoor
open Go.ChangeShapes Go.WideShapes Go.ChangeAt Go.RowKit
theorem laidOut : laidOutB Tryz.prog = true := by kernel_rfl
theorem wf_u64 {n : Int} (h : (Lit.int .u64 n).wf = true) : ∃ m : Nat, n = (m : Int) ∧ m < q64 := by
  have h' : 0 ≤ n ∧ n ≤ 18446744073709551615 := by simpa [Lit.wf, IntKind.min, IntKind.max, IntKind.signed, IntKind.bits] using h
  obtain ⟨h0, h1⟩ := h'
  have h2 : n < ((q64 : Nat) : Int) := Int.lt_of_le_of_lt h1 (by decide)
  clear h h1
  generalize q64 = q at h2 ⊢
  exact ⟨n.toNat, by omega, by omega⟩
set_option maxRecDepth 100000 in
/-- A word that came in. -/
theorem open_word {H : Type} {enc : TypeId × Value → H} {W : World} {base b0 : Nat} {r : Reach} {spare : Nat → Bool} {held : Bool} {v : Value} {d : DataW H} {p : List MemPlace} (hv : Value.okWide Tryz.prog W r b0 24 v)
    (h : DataW.Trod enc Tryz.prog W base spare held 24 v d p) : ∃ x : Wd, x.Ok ∧ v = wv x := by
  obtain ⟨v0, v1, v2, v3, y0, y1, y2, y3, n, rfl, _, _, h0, h1, h2, h3⟩ := Go.Joins.open_agg4 Tryz.underlying24 (by kernel_rfl) (by kernel_rfl) hv h
  obtain ⟨n0, e0, _, w0⟩ := DataW.trod_int Tryz.underlying22 h0
  obtain ⟨n1, e1, _, w1⟩ := DataW.trod_int Tryz.underlying22 h1
  obtain ⟨n2, e2, _, w2⟩ := DataW.trod_int Tryz.underlying22 h2
  obtain ⟨n3, e3, _, w3⟩ := DataW.trod_int Tryz.underlying22 h3
  obtain ⟨a, rfl, ha⟩ := wf_u64 w0
  obtain ⟨b, rfl, hb⟩ := wf_u64 w1
  obtain ⟨c, rfl, hc⟩ := wf_u64 w2
  obtain ⟨d', rfl, hd⟩ := wf_u64 w3
  simp only [List.cons.injEq, and_true] at e0 e1 e2 e3
  subst e0 e1 e2 e3
  exact ⟨⟨a, b, c, d'⟩, ⟨ha, hb, hc, hd⟩, rfl⟩
end Go.Proofs.YtbjkdnbmgoibiaaGreatDoor
