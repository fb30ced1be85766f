/-
  Maps as functions, more: a key struck out; keys that are structs. And frames: what a call may touch of an object and of what it owns. Over any program.
-/
import Derived.Test.YtbjkdnbmgoibiaaGreatDoorMap
import Derived.Test.YtbjkdnbmgoibiaaGreatDoorLib2
namespace Go.Proofs.YtbjkdnbmgoibiaaGreatDoor
open Go.RowKit Go.MapKept
open Classical in
theorem findIn_erase {x key : Value} {ent : MapEntry} : ∀ (l : List MapEntry) (n i : Nat), (l.map (·.key)).Nodup → l[n]? = some ent → ent.key = key →
    (findIn x (l.eraseIdx n) i).map (·.2) = if x = key then none else (findIn x l i).map (·.2)
  | [], n, _, _, h, _ => by simp at h
  | y :: l, 0, i, hn, h, hk => by
    simp at h; subst h
    simp only [List.map_cons, List.nodup_cons] at hn
    rw [List.eraseIdx_cons_zero]
    by_cases hx : x = key
    · rw [if_pos hx, findIn_none (fun e he hek => hn.1 (by rw [hk, ← hx, ← hek]; exact List.mem_map_of_mem he))]; rfl
    · rw [if_neg hx]
      conv => rhs; unfold findIn
      rw [if_neg (by rw [hk]; exact Ne.symm hx)]
      exact findIn_shift _ _ _
  | y :: l, n + 1, i, hn, h, hk => by
    simp only [List.map_cons, List.nodup_cons] at hn
    rw [List.eraseIdx_cons_succ]
    have hm : ent ∈ l := List.mem_of_getElem? (by simpa using h)
    have hy : y.key ≠ key := fun e => hn.1 (by rw [e, ← hk]; exact List.mem_map_of_mem hm)
    unfold findIn
    by_cases hx : y.key = x
    · rw [if_pos hx, if_pos hx, if_neg (by rw [← hx]; exact hy)]
    · rw [if_neg hx, if_neg hx]
      exact findIn_erase l n (i + 1) hn.2 (by simpa using h) hk
where
  findIn_shift {x : Value} : ∀ (l : List MapEntry) (i j : Nat), (findIn x l i).map (·.2) = (findIn x l j).map (·.2)
  | [], _, _ => rfl
  | y :: l, i, j => by
    unfold findIn
    by_cases hx : y.key = x
    · rw [if_pos hx, if_pos hx]; rfl
    · rw [if_neg hx, if_neg hx]; exact findIn_shift l _ _
variable {K : Value → Prop}
section
variable {P : Program}
/-- A key struck out. -/
theorem MapIs.delete {w : World} {b : Nat} {f : Value → Option Value} {t k e : TypeId} (KO : KeyOk P k K) (ht : P.underlying t = some (.map k e)) (h : MapIs K w b f) {key : Value} (hkey : K key) (at_ : Array TypeId) (hat : at_[0]? = some t) (ty : TypeId) :
    ∃ w', (Builtin.delete_ at_ ty #[.map (some b), key]).run P w = .ok (.tuple #[]) w' ∧ MapIs K w' b (del f key) ∧ w.grownBy w' (some b) ∧ w'.heap.size = w.heap.size := by
  obtain ⟨es, clock, h1, h2, h3, h4, h5, h6⟩ := h.ex
  have hlt := h.lt
  cases hf : findIn key es.toList 0 with
  | none =>
    refine ⟨{ w with heap := w.heap.setIfInBounds b (.map es clock) }, ?_, ⟨es, clock, by simp [hlt], h2, h3, h4, h5, ?_⟩, heap_setIf w b _, by simp⟩
    · simp [Builtin.delete_, hat, run_underlying ht, MapKept.run_getObj_map h1, KO.check key es.isEmpty w hkey, KO.find key es.toList w hkey h2, hf, Result.andThen, MapKept.run_setObj_map _ h1]
    · intro x
      by_cases hx : x = key
      · subst hx; rw [del_same, hf]; rfl
      · rw [del_other hx, h6 x]
  | some p =>
    obtain ⟨i, v⟩ := p
    obtain ⟨n, ent, hi, hn, hk, hv, hfirst⟩ := findIn_some hf
    obtain rfl : i = n := by omega
    have hil : i < es.size := by have := (List.getElem?_eq_some_iff.1 hn).1; simpa using this
    have het : (es.eraseIdxIfInBounds i).toList = es.toList.eraseIdx i := by
      simp [Array.eraseIdxIfInBounds, hil]
    have hsub : (es.toList.eraseIdx i).Sublist es.toList := List.eraseIdx_sublist _ _
    refine ⟨{ w with heap := w.heap.setIfInBounds b (.map (es.eraseIdxIfInBounds i) clock) }, ?_, ⟨es.eraseIdxIfInBounds i, clock, by simp [hlt], ?_, ?_, ?_, ?_, ?_⟩, heap_setIf w b _, by simp⟩
    · simp [Builtin.delete_, hat, run_underlying ht, MapKept.run_getObj_map h1, KO.check key es.isEmpty w hkey, KO.find key es.toList w hkey h2, hf, Result.andThen, MapKept.run_setObj_map _ h1]
    · rw [het]; exact fun x hx => h2 x (hsub.mem hx)
    · rw [het]; exact h3.sublist (hsub.map _)
    · rw [het]; exact h4.sublist (hsub.map _)
    · rw [het]; exact fun x hx => h5 x (hsub.mem hx)
    · intro x
      rw [het, findIn_erase _ _ _ h3 hn hk, del, h6 x]
section
variable {ops : Array Oper} {rest : List Oper} {o : Oper} {a : Act} {Q : Exit → Act → World → Prop}
theorem wpList_strike (w : World) (hg : o.guard = none) (m x : Operand) (t : TypeId) (at_ : Array TypeId) (hop : o.op = Op.call { callee := .builtin .delete, args := #[m, x], argTypes := at_ }) (hat : at_[0]? = some t) (k e : TypeId) (ht : P.underlying t = some (.map k e)) (KO : KeyOk P k K) (b : Nat) (f : Value → Option Value)
    (hm : a.eval m = .map (some b)) (hown : MapIs K w b f) (key : Value) (hx : a.eval x = key) (hkey : K key)
    (hK : ∀ w', MapIs K w' b (del f key) → w.grownBy w' (some b) → w'.heap.size = w.heap.size → wpList P ops Q rest (a.put o.dst (.tuple #[])) w') :
    wpList P ops Q (o :: rest) a w := by
  refine wpList_plain hg fun K' hK' => ?_
  obtain ⟨w', hrun, r1, r2, r3⟩ := hown.delete KO ht hkey at_ hat o.type
  unfold Oper.wp
  simp [execOp, hop, hm, hx, resolve, invoke, builtin, hrun, Result.andThen]
  exact hK' _ _ (hK w' r1 r2 r3)
end
end
/-- All but the blocks of F stand. -/
structure Only (F : Nat → Prop) (w w' : World) : Prop where
  os : w'.os = w.os
  tape : w'.tape = w.tape
  output : w'.output = w.output
  size : w.heap.size ≤ w'.heap.size
  block : ∀ k, k < w.heap.size → ¬ F k → w'.heap[k]? = w.heap[k]?
theorem Only.refl (F : Nat → Prop) (w : World) : Only F w w := ⟨rfl, rfl, rfl, Nat.le_refl _, fun _ _ _ => rfl⟩
theorem Only.trans {F G : Nat → Prop} {a b c : World} (h : Only F a b) (k : Only G b c) (hG : ∀ i, i < a.heap.size → G i → F i) : Only F a c :=
  ⟨k.os.trans h.os, k.tape.trans h.tape, k.output.trans h.output, Nat.le_trans h.size k.size, fun i hi hn => (k.block i (Nat.lt_of_lt_of_le hi h.size) (fun g => hn (hG i hi g))).trans (h.block i hi hn)⟩
theorem Only.mono {F G : Nat → Prop} {a b : World} (h : Only F a b) (hG : ∀ i, i < a.heap.size → F i → G i) : Only G a b :=
  ⟨h.os, h.tape, h.output, h.size, fun i hi hn => h.block i hi fun f => hn (hG i hi f)⟩
theorem Only.of_below {F : Nat → Prop} {a b : World} (h : Below a.heap.size a b) : Only F a b := ⟨h.os, h.tape, h.output, h.size, fun i hi _ => h.block i hi⟩
theorem Only.of_grown {a b : World} {r : Nat} (h : a.grownBy b (some r)) : Only (· = r) a b := ⟨h.os, h.tape, h.output, h.size, fun i hi hn => h.block i hi (by simpa using hn)⟩
theorem Only.below {F : Nat → Prop} {a b : World} {B : Nat} (h : Only F a b) (hF : ∀ k, k < B → ¬ F k) (hB : B ≤ a.heap.size) : Below B a b :=
  ⟨h.os, h.tape, h.output, h.size, fun i hi => h.block i (by omega) (hF i hi)⟩
theorem Only.setCell {a : World} {b o : Nat} (v : Value) : Only (· = b) a (a.setCell ⟨b, o, none⟩ v) :=
  ⟨rfl, rfl, rfl, by simp [World.setCell], fun i _ hn => setCell_other (Ne.symm hn) o v⟩
theorem Only.drew {F : Nat → Prop} {a b : World} (h : Only F a b) : Only F a b.drew := ⟨h.os, h.tape, h.output, h.size, h.block⟩
theorem Only.alloc {F : Nat → Prop} {a b : World} (h : Only F a b) (o : Obj) : Only F a (b.alloc o) :=
  h.trans (Only.of_below (F := F) ((Below.refl _ _).alloc (Nat.le_refl _) o)) (fun _ _ g => g)
/-- The block that a value leads to: a map's, a row's. -/
def vblock : Value → Option Nat
  | .map (some b) => some b
  | .slice (some a) _ _ => some a.block
  | _ => none
/-- An object's own blocks: its variable, and the maps and rows in it. -/
def Foot (w : World) (p k : Nat) : Prop := k = p ∨ ∃ cs t fr, w.heap[p]? = some (.cells cs t fr) ∧ ∃ v ∈ cs.toList, vblock v = some k
theorem Foot.of_block {w w' : World} {p k : Nat} (h : w'.heap[p]? = w.heap[p]?) (hf : Foot w' p k) : Foot w p k := by
  rcases hf with rfl | ⟨cs, t, fr, h1, h2⟩
  · exact .inl rfl
  · exact .inr ⟨cs, t, fr, by rw [← h]; exact h1, h2⟩
/-- The call touched nothing but an object's own blocks. -/
structure Moved (p : Nat) (w w' : World) : Prop where
  only : Only (Foot w p) w w'
  foot : ∀ k, k < w.heap.size → Foot w' p k → Foot w p k
theorem Moved.trans {p : Nat} {a b c : World} (h : Moved p a b) (k : Moved p b c) : Moved p a c :=
  ⟨h.only.trans k.only fun i hi f => h.foot i hi f, fun i hi f => h.foot i hi (k.foot i (Nat.lt_of_lt_of_le hi h.only.size) f)⟩
theorem Moved.of_below {p : Nat} {a b : World} (h : Below a.heap.size a b) (hp : p < a.heap.size) : Moved p a b :=
  ⟨Only.of_below h, fun _ _ f => f.of_block (h.block p hp)⟩
theorem Moved.refl (p : Nat) (a : World) : Moved p a a := ⟨Only.refl _ _, fun _ _ f => f⟩
/-- An object all of whose blocks are the call's own: what was there stands. -/
theorem Moved.below {p B : Nat} {a b : World} (h : Moved p a b) (hF : ∀ k, Foot a p k → B ≤ k) (hB : B ≤ a.heap.size) : Below B a b ∧ ∀ k, Foot b p k → B ≤ k := by
  refine ⟨h.only.below (fun k hk f => by have := hF k f; omega) hB, fun k f => ?_⟩
  rcases Nat.lt_or_ge k a.heap.size with hk | hk
  · exact hF k (h.foot k hk f)
  · omega
end Go.Proofs.YtbjkdnbmgoibiaaGreatDoor
