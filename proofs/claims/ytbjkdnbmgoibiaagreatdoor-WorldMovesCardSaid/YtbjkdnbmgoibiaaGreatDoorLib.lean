/-
  Small laws of my own, over any program: a string out of a new row of bytes; what is kept below a block.
-/
import Derived.WalkKit
import Derived.WalkSpells
import Derived.Laws.BytesArg
import Derived.Lib.Hide
import Derived.Below
namespace Go.Proofs.YtbjkdnbmgoibiaaGreatDoor
open Go.RowKit
/-- Bytes as a text. -/
def str (l : List UInt8) : ByteArray := ⟨l.toArray⟩
theorem str_size (l : List UInt8) : (str l).size = l.length := by simp [str, ByteArray.size]
theorem str_toList (l : List UInt8) : (str l).data.toList = l := rfl
theorem str_inj {a b : List UInt8} (h : str a = str b) : a = b := by
  have := congrArg (fun s : ByteArray => s.data.toList) h
  simpa [str] using this
theorem str_of (s : ByteArray) : str s.data.toList = s := by cases s; simp [str]
theorem strOfNums_str (xs : List Int) : strOfNums xs = str (xs.map fun n => UInt8.ofNat n.toNat) := rfl
section
variable {P : Program}
/-- A text out of the newest block, all of whose cells are bytes. -/
theorem run_convert_newest (w : World) (src dst e t : TypeId) (hs : P.underlying src = some (.slice e)) (he : P.underlying e = some (.int .u8)) (hd : P.underlying dst = some .string)
    (xs : List Int) (n cap : Nat) (hn : xs.length = n) :
    (convert src dst (.slice (some ⟨w.heap.size, 0, none⟩) n cap)).run P (w.alloc (.cells (xs.map (Value.int .u8)).toArray t)) =
      .ok (.string (strOfNums xs)) (w.alloc (.cells (xs.map (Value.int .u8)).toArray t)) := by
  refine run_convert_bytes_arg _ src e hs he w.heap.size 0 n cap xs hn (fun i hi => ?_) dst hd
  have hix : i < xs.length := by omega
  simp [World.cell?_alloc_new, hix]
end
/-- What is kept below: cells and marks. -/
theorem bcell {B : Nat} {W w1 : World} (hb : Below B W w1) :
    (∀ b o, b < B → w1.cell? ⟨b, o, none⟩ = W.cell? ⟨b, o, none⟩) ∧ (∀ b o, b < B → w1.frozen? ⟨b, o, none⟩ = W.frozen? ⟨b, o, none⟩) :=
  ⟨fun b o h => hb.cell (p := ⟨b, o, none⟩) h, fun b o h => hb.frozen (p := ⟨b, o, none⟩) h⟩
/-- A block made ahead of a call that turns nothing below it. -/
theorem still_there {w w1 : World} {C : Array Value} {t : TypeId} (hb : Below (w.heap.size + 1) (w.alloc (.cells C t)) w1) :
    w1.heap[w.heap.size]? = some (.cells C t (0, 0)) ∧ w.heap.size < w1.heap.size ∧ Below w.heap.size w w1 := by
  have h1 : (w.alloc (.cells C t)).heap[w.heap.size]? = some (.cells C t (0, 0)) := by
    have e : (w.alloc (.cells C t)).heap = w.heap.push (.cells C t) := rfl
    rw [e]; simp
  have h2 := hb.size
  rw [World.size_alloc] at h2
  exact ⟨by rw [hb.block _ (Nat.lt_succ_self _)]; exact h1, h2, ((Below.refl _ _).alloc (Nat.le_refl _) _).trans (hb.mono (Nat.le_succ _))⟩
theorem cell_of {w : World} {b : Nat} {C : Array Value} {t : TypeId} {fr : Nat × Nat} (h : w.heap[b]? = some (.cells C t fr)) (o : Nat) : w.cell? ⟨b, o, none⟩ = C[o]? := by
  simp [World.cell?, h]
theorem free_of {w : World} {b : Nat} {C : Array Value} {t : TypeId} (h : w.heap[b]? = some (.cells C t (0, 0))) (o : Nat) : w.frozen? ⟨b, o, none⟩ = false := by
  simp [World.frozen?, h]
theorem ret1s {a b : List UInt8} (h : a = b) : Ending.returned (.string ⟨a.toArray⟩) = .returned (.string ⟨b.toArray⟩) := by rw [h]
theorem rets {a b : ByteArray} (h : a = b) : Ending.returned (.string a) = .returned (.string b) := by rw [h]
theorem reti {k : IntKind} {a b : Int} (h : a = b) : Ending.returned (.int k a) = .returned (.int k b) := by rw [h]
theorem retb {a b : Bool} (h : a = b) : Ending.returned (.bool a) = .returned (.bool b) := by rw [h]
end Go.Proofs.YtbjkdnbmgoibiaaGreatDoor
