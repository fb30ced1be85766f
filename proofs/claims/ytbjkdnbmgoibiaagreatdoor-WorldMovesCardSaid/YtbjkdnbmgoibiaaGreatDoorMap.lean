/-
  Maps as functions: what a block that is a map holds, key by key; a look-up, a store, a strike, a range over it. Over any program.
-/
import Derived.Test.YtbjkdnbmgoibiaaGreatDoorLib
import Derived.MapKept
import Derived.Maps.Own
import Derived.Maps.OwnOps
import Derived.Maps.OwnSet
import Derived.Laws.AppendOwn
namespace Go.Proofs.YtbjkdnbmgoibiaaGreatDoor
open Go.RowKit Go.MapKept
open Classical in
/-- The first entry of a key. -/
noncomputable def findIn (k : Value) : List MapEntry → Nat → Option (Nat × Value)
  | [], _ => none
  | e :: es, i => if e.key = k then some (i, e.val) else findIn k es (i + 1)
theorem findIn_none {k : Value} : ∀ {l : List MapEntry} {i : Nat}, (∀ e ∈ l, e.key ≠ k) → findIn k l i = none
  | [], _, _ => rfl
  | e :: es, i, h => by
    unfold findIn
    rw [if_neg (h e (by simp))]
    exact findIn_none fun x hx => h x (by simp [hx])
theorem findIn_none_iff {k : Value} : ∀ {l : List MapEntry} {i : Nat}, findIn k l i = none ↔ ∀ e ∈ l, e.key ≠ k
  | [], _ => by simp [findIn]
  | e :: es, i => by
    unfold findIn
    by_cases h : e.key = k
    · rw [if_pos h]; simp [h]
    · rw [if_neg h, findIn_none_iff]; simp [h]
theorem findIn_some {k : Value} : ∀ {l : List MapEntry} {i j : Nat} {v : Value}, findIn k l i = some (j, v) → ∃ n e, j = i + n ∧ l[n]? = some e ∧ e.key = k ∧ e.val = v ∧ ∀ m x, m < n → l[m]? = some x → x.key ≠ k
  | [], _, _, _, h => by simp [findIn] at h
  | e :: es, i, j, v, h => by
    unfold findIn at h
    by_cases hk : e.key = k
    · rw [if_pos hk] at h
      simp only [Option.some.injEq, Prod.mk.injEq] at h
      exact ⟨0, e, by omega, rfl, hk, h.2, fun m x hm => by omega⟩
    · rw [if_neg hk] at h
      obtain ⟨n, x, h1, h2, h3, h4, h5⟩ := findIn_some h
      refine ⟨n + 1, x, by omega, by simpa using h2, h3, h4, fun m y hm hy => ?_⟩
      cases m with
      | zero => simp at hy; subst hy; exact hk
      | succ m => exact h5 m y (by omega) (by simpa using hy)
theorem findIn_of_mem {k : Value} : ∀ {l : List MapEntry} {i : Nat} {e : MapEntry}, (l.map (·.key)).Nodup → e ∈ l → e.key = k → ∃ j, findIn k l i = some (j, e.val)
  | [], _, _, _, h, _ => by simp at h
  | x :: es, i, e, hn, h, hk => by
    unfold findIn
    by_cases hx : x.key = k
    · rw [if_pos hx]
      rcases List.mem_cons.1 h with rfl | h'
      · exact ⟨i, rfl⟩
      · simp only [List.map_cons, List.nodup_cons] at hn
        exact absurd (by rw [hx, ← hk]; exact List.mem_map_of_mem h') hn.1
    · rw [if_neg hx]
      rcases List.mem_cons.1 h with rfl | h'
      · exact absurd hk hx
      · exact findIn_of_mem (by simp only [List.map_cons, List.nodup_cons] at hn; exact hn.2) h' hk
theorem mem_modify {f : MapEntry → MapEntry} {x : MapEntry} : ∀ {l : List MapEntry} {i : Nat}, x ∈ l.modify i f → x ∈ l ∨ ∃ y, y ∈ l ∧ f y = x
  | [], i, h => by simp at h
  | y :: l, 0, h => by
    simp at h
    rcases h with rfl | h
    · exact .inr ⟨y, by simp, rfl⟩
    · exact .inl (by simp [h])
  | y :: l, i + 1, h => by
    simp at h
    rcases h with rfl | h
    · exact .inl (by simp)
    · rcases mem_modify h with h | ⟨z, hz, e⟩
      · exact .inl (by simp [h])
      · exact .inr ⟨z, by simp [hz], e⟩
theorem map_modify_same {α : Type} (g : MapEntry → α) (f : MapEntry → MapEntry) : ∀ (l : List MapEntry) (i : Nat), (∀ e, l[i]? = some e → g (f e) = g e) → (l.modify i f).map g = l.map g
  | [], i, _ => by simp
  | y :: l, 0, h => by simp; exact h y rfl
  | y :: l, i + 1, h => by simp; exact map_modify_same g f l i (fun e he => h e (by simpa using he))
open Classical in
theorem findIn_modify {x key val : Value} {ent : MapEntry} : ∀ (l : List MapEntry) (n i : Nat), l[n]? = some ent → ent.key = key → (∀ m y, m < n → l[m]? = some y → y.key ≠ key) →
    (findIn x (l.modify n fun e => { e with key, val }) i).map (·.2) = if x = key then some val else (findIn x l i).map (·.2)
  | [], n, _, h, _, _ => by simp at h
  | y :: l, 0, i, h, hk, _ => by
    simp at h; subst h
    simp only [List.modify_zero_cons]
    unfold findIn
    by_cases hx : x = key
    · subst hx; simp
    · rw [if_neg (Ne.symm hx), if_neg hx, if_neg (by rw [hk]; exact Ne.symm hx)]
  | y :: l, n + 1, i, h, hk, hf => by
    have hy : y.key ≠ key := hf 0 y (by omega) rfl
    simp only [List.modify_succ_cons]
    unfold findIn
    by_cases hx : y.key = x
    · rw [if_pos hx, if_pos hx, if_neg (by rw [← hx]; exact hy)]
    · rw [if_neg hx, if_neg hx, findIn_modify l n (i + 1) (by simpa using h) hk (fun m z hm hz => hf (m + 1) z (by omega) (by simpa using hz))]
open Classical in
theorem findIn_push {x key val : Value} {clock : Nat} : ∀ (l : List MapEntry) (i : Nat), (∀ y ∈ l, y.key ≠ key) →
    (findIn x (l ++ [{ key, val, born := clock }]) i).map (·.2) = if x = key then some val else (findIn x l i).map (·.2)
  | [], i, _ => by
    by_cases hx : x = key
    · subst hx; simp [findIn]
    · simp [findIn, hx, Ne.symm hx]
  | y :: l, i, hy => by
    simp only [List.cons_append]
    unfold findIn
    by_cases hx : y.key = x
    · rw [if_pos hx, if_pos hx, if_neg (fun e => hy y (by simp) (by rw [hx, e]))]
    · rw [if_neg hx, if_neg hx, findIn_push l (i + 1) fun z hz => hy z (by simp [hz])]
/-- What a map's operations ask of its keys. -/
structure KeyOk (P : Program) (kt : TypeId) (K : Value → Prop) : Prop where
  check : ∀ (k : Value) (em : Bool) (w : World), K k → (Instr.checkKey em 10000 kt k).run P w = .ok () w
  find : ∀ (k : Value) (l : List MapEntry) (w : World), K k → (∀ e ∈ l, K e.key) → (Instr.findKey kt k l).run P w = .ok (findIn k l 0) w
  same : ∀ k, K k → Instr.sameBits 10000 k k = true
theorem findNow_in {d : TypeDesc} {k : Value} (hk : IsKey d k) : ∀ (l : List MapEntry) (i : Nat), (∀ x ∈ l, IsKey d x.key) → Instr.findNow d k l i = some (findIn k l i)
  | [], _, _ => rfl
  | e :: es, i, h => by
    obtain ⟨r, hr, hiff⟩ := sameNow_of_keys hk (h e (.head _))
    unfold findIn
    cases r with
    | true => rw [if_pos (hiff.1 rfl).symm]; simp [Instr.findNow, hr]
    | false =>
      rw [if_neg (fun q => by have := hiff.2 q.symm; cases this), ← findNow_in hk es (i + 1) fun x hx => h x (.tail _ hx)]
      simp [Instr.findNow, hr]
/-- Keys that are numbers, texts, bools. -/
theorem keyOk_plain {P : Program} {kt : TypeId} {d : TypeDesc} (hd : P.underlying kt = some d) (hs : ∀ k, IsKey d k → Instr.sameBits 10000 k k = true) : KeyOk P kt (IsKey d) where
  check := fun _ em _ hk => run_checkKey hd hk em 9999
  find := fun _ l _ hk hl => run_findKey hd (findNow_in hk l 0 hl)
  same := hs
theorem sameBits_string (k : Value) (h : IsKey .string k) : Instr.sameBits 10000 k k = true := by
  cases k <;> simp_all [IsKey]
  exact (bytes_beq _ _).2 rfl
theorem sameBits_int (q : IntKind) (k : Value) (h : IsKey (.int q) k) : Instr.sameBits 10000 k k = true := by
  cases k <;> simp_all [IsKey, Instr.sameBits]
/-- A block that is a map and holds f. -/
structure MapIs (K : Value → Prop) (w : World) (b : Nat) (f : Value → Option Value) : Prop where
  ex : ∃ es clock, w.heap[b]? = some (.map es clock) ∧ (∀ e ∈ es.toList, K e.key) ∧ (es.toList.map (·.key)).Nodup ∧ (es.toList.map (·.born)).Nodup ∧ (∀ e ∈ es.toList, e.born < clock) ∧
    ∀ k, f k = (findIn k es.toList 0).map (·.2)
open Classical in
/-- One key more. -/
noncomputable def upd (f : Value → Option Value) (k v : Value) : Value → Option Value := fun x => if x = k then some v else f x
open Classical in
/-- One key less. -/
noncomputable def del (f : Value → Option Value) (k : Value) : Value → Option Value := fun x => if x = k then none else f x
theorem upd_same (f : Value → Option Value) (k v : Value) : upd f k v k = some v := by simp [upd]
theorem upd_other {f : Value → Option Value} {k v x : Value} (h : x ≠ k) : upd f k v x = f x := by simp [upd, h]
theorem del_same (f : Value → Option Value) (k : Value) : del f k k = none := by simp [del]
theorem del_other {f : Value → Option Value} {k x : Value} (h : x ≠ k) : del f k x = f x := by simp [del, h]
variable {K : Value → Prop}
theorem MapIs.of_block {w w' : World} {b : Nat} {f : Value → Option Value} (h : MapIs K w b f) (hb : w'.heap[b]? = w.heap[b]?) : MapIs K w' b f := by
  obtain ⟨es, clock, h1, h2⟩ := h.ex
  exact ⟨es, clock, by rw [hb]; exact h1, h2⟩
theorem MapIs.lt {w : World} {b : Nat} {f : Value → Option Value} (h : MapIs K w b f) : b < w.heap.size := by
  obtain ⟨es, clock, h1, _⟩ := h.ex
  exact (Array.getElem?_eq_some_iff.1 h1).1
theorem MapIs.below {w w' : World} {b B : Nat} {f : Value → Option Value} (h : MapIs K w b f) (hb : Below B w w') (hB : b < B) : MapIs K w' b f := h.of_block (hb.block b hB)
theorem MapIs.grown {w w' : World} {b : Nat} {row : Option Nat} {f : Value → Option Value} (h : MapIs K w b f) (hg : w.grownBy w' row) (hne : some b ≠ row) : MapIs K w' b f := h.of_block (hg.block b h.lt hne)
theorem MapIs.key {w : World} {b : Nat} {f : Value → Option Value} (h : MapIs K w b f) {k v : Value} (hk : f k = some v) : K k := by
  obtain ⟨es, clock, h1, h2, h3, h4, h5, h6⟩ := h.ex
  rw [h6 k] at hk
  cases hf : findIn k es.toList 0 with
  | none => simp [hf] at hk
  | some p =>
    obtain ⟨n, e, _, he, hek, _⟩ := findIn_some (j := p.1) (v := p.2) hf
    rw [← hek]; exact h2 e (List.mem_of_getElem? he)
theorem MapIs.made (w : World) : MapIs K (w.alloc (.map #[] 0)) w.heap.size (fun _ => none) :=
  ⟨#[], 0, (heap_alloc w _).1, by simp, by simp, by simp, by simp, fun _ => rfl⟩
theorem heap_setIf (w : World) (b : Nat) (o : Obj) : w.grownBy { w with heap := w.heap.setIfInBounds b o } (some b) :=
  ⟨rfl, rfl, rfl, by simp, fun k hk hne => by
    have : b ≠ k := fun e => hne (by rw [e])
    simp [this]⟩
section
variable {P : Program}
/-- A store. -/
theorem MapIs.update {w : World} {b : Nat} {f : Value → Option Value} {t k e : TypeId} (KO : KeyOk P k K) (ht : P.underlying t = some (.map k e)) (h : MapIs K w b f) {key : Value} (hkey : K key) (val : Value) :
    ∃ w', (Instr.mapUpdate t (.map (some b)) key val).run P w = .ok () w' ∧ MapIs K w' b (upd f key val) ∧ w.grownBy w' (some b) ∧ w'.heap.size = w.heap.size ∧ w'.drawn = w.drawn := by
  obtain ⟨es, clock, h1, h2, h3, h4, h5, h6⟩ := h.ex
  have hlt := h.lt
  cases hf : findIn key es.toList 0 with
  | none =>
    refine ⟨{ w with heap := w.heap.setIfInBounds b (.map (es.push { key, val, born := clock }) (clock + 1)) }, ?_, ⟨es.push { key, val, born := clock }, clock + 1, by simp [hlt], ?_, ?_, ?_, ?_, ?_⟩, heap_setIf w b _, by simp, rfl⟩
    · simp [Instr.mapUpdate, run_underlying ht, MapKept.run_getObj_map h1, KO.check key false w hkey, KO.find key es.toList w hkey h2, hf, Result.andThen, MapKept.run_setObj_map _ h1]
    · intro x hx
      simp at hx
      rcases hx with hx | rfl
      · exact h2 x (by simpa using hx)
      · exact hkey
    · have hn := findIn_none_iff.1 hf
      simp only [Array.toList_push, List.map_append, List.map_cons, List.map_nil]
      rw [List.nodup_append]
      refine ⟨h3, by simp, ?_⟩
      intro a ha c hc
      simp at hc; subst hc
      obtain ⟨x, hx, rfl⟩ := List.mem_map.1 ha
      exact hn x hx
    · simp only [Array.toList_push, List.map_append, List.map_cons, List.map_nil]
      rw [List.nodup_append]
      refine ⟨h4, by simp, ?_⟩
      intro a ha c hc
      simp at hc; subst hc
      obtain ⟨x, hx, rfl⟩ := List.mem_map.1 ha
      exact Nat.ne_of_lt (h5 x hx)
    · intro x hx
      simp at hx
      rcases hx with hx | rfl
      · exact Nat.lt_succ_of_lt (h5 x (by simpa using hx))
      · exact Nat.lt_succ_self _
    · intro x
      rw [Array.toList_push, findIn_push _ _ (findIn_none_iff.1 hf), upd, h6 x]
  | some p =>
    obtain ⟨i, v⟩ := p
    obtain ⟨n, ent, hi, hn, hk, hv, hfirst⟩ := findIn_some hf
    obtain rfl : i = n := by omega
    have hes : es[i]? = some ent := by simpa using hn
    refine ⟨{ w with heap := w.heap.setIfInBounds b (.map (es.modify i fun e => { e with key, val }) clock) }, ?_, ⟨es.modify i fun e => { e with key, val }, clock, by simp [hlt], ?_, ?_, ?_, ?_, ?_⟩, heap_setIf w b _, by simp, rfl⟩
    · simp [Instr.mapUpdate, run_underlying ht, MapKept.run_getObj_map h1, KO.check key false w hkey, KO.find key es.toList w hkey h2, hf, Result.andThen, hes, hk, Instr.keyThatStays, KO.same key hkey, MapKept.run_setObj_map _ h1]
    · intro x hx
      simp only [Array.toList_modify] at hx
      rcases mem_modify hx with hx | ⟨y, hy, rfl⟩
      · exact h2 x hx
      · exact hkey
    · simp only [Array.toList_modify]
      rw [map_modify_same (fun e => e.key) _ _ _ (fun e he => by rw [hn] at he; simp at he; subst he; exact hk.symm)]
      exact h3
    · simp only [Array.toList_modify]
      rw [map_modify_same (fun e => e.born) (fun e => { e with key, val }) _ _ (fun _ _ => rfl)]
      exact h4
    · intro x hx
      simp only [Array.toList_modify] at hx
      rcases mem_modify hx with hx | ⟨y, hy, rfl⟩
      · exact h5 x hx
      · exact h5 y hy
    · intro x
      simp only [Array.toList_modify]
      rw [findIn_modify _ _ _ hn hk hfirst, upd, h6 x]
/-- A look-up. -/
theorem MapIs.look {w : World} {b : Nat} {f : Value → Option Value} {t k e : TypeId} (KO : KeyOk P k K) (ht : P.underlying t = some (.map k e)) (h : MapIs K w b f) {key : Value} (hkey : K key) (z : Value)
    (hz : (zeroValue e).run P w = .ok z w) (c : Bool) :
    (Instr.lookup t (.map (some b)) key c).run P w = .ok (if c then .tuple #[(f key).getD z, .bool (f key).isSome] else (f key).getD z) w := by
  obtain ⟨es, clock, h1, h2, h3, h4, h5, h6⟩ := h.ex
  rw [h6 key]
  cases hf : findIn key es.toList 0 with
  | none => cases c <;> simp [Instr.lookup, run_underlying ht, MapKept.run_getObj_map h1, KO.check key es.isEmpty w hkey, KO.find key es.toList w hkey h2, hf, Result.andThen, hz]
  | some p => cases c <;> simp [Instr.lookup, run_underlying ht, MapKept.run_getObj_map h1, KO.check key es.isEmpty w hkey, KO.find key es.toList w hkey h2, hf, Result.andThen]
/-- Block r is an iterator over the map in block b, which has handed out the keys 'done'; 'n' are left. -/
structure IterIs (K : Value → Prop) (w : World) (r b : Nat) (f : Value → Option Value) (done : Value → Prop) (n : Nat) : Prop where
  ex : ∃ es clock seen, w.heap[b]? = some (.map es clock) ∧ (∀ e ∈ es.toList, K e.key) ∧ (es.toList.map (·.key)).Nodup ∧ (es.toList.map (·.born)).Nodup ∧ (∀ e ∈ es.toList, e.born < clock) ∧
    (∀ k, f k = (findIn k es.toList 0).map (·.2)) ∧ w.heap[r]? = some (.mapIter (some b) clock seen clock) ∧ (∀ e ∈ es.toList, seen.contains e.born = true ↔ done e.key) ∧
    n = (es.filter fun e => !seen.contains e.born).size
theorem IterIs.map {w : World} {r b n : Nat} {f : Value → Option Value} {done : Value → Prop} (h : IterIs K w r b f done n) : MapIs K w b f := by
  obtain ⟨es, clock, seen, h1, h2, h3, h4, h5, h6, _⟩ := h.ex
  exact ⟨es, clock, h1, h2, h3, h4, h5, h6⟩
theorem IterIs.of_blocks {w w' : World} {r b n : Nat} {f : Value → Option Value} {done : Value → Prop} (h : IterIs K w r b f done n) (hb : w'.heap[b]? = w.heap[b]?) (hr : w'.heap[r]? = w.heap[r]?) : IterIs K w' r b f done n := by
  obtain ⟨es, clock, seen, h1, h2, h3, h4, h5, h6, h7, h8⟩ := h.ex
  exact ⟨es, clock, seen, by rw [hb]; exact h1, h2, h3, h4, h5, h6, by rw [hr]; exact h7, h8⟩
theorem IterIs.lt {w : World} {r b n : Nat} {f : Value → Option Value} {done : Value → Prop} (h : IterIs K w r b f done n) : r < w.heap.size := by
  obtain ⟨es, clock, seen, h1, h2, h3, h4, h5, h6, h7, h8⟩ := h.ex
  exact (Array.getElem?_eq_some_iff.1 h7).1
theorem MapIs.range {w : World} {b : Nat} {f : Value → Option Value} {t k e : TypeId} (ht : P.underlying t = some (.map k e)) (h : MapIs K w b f) :
    ∃ n, (Instr.range t (.map (some b))).run P w = .ok (.pointer (some ⟨w.heap.size, 0, none⟩)) (w.alloc (.mapIter (some b) n #[] n)) ∧
      ∃ m, IterIs K (w.alloc (.mapIter (some b) n #[] n)) w.heap.size b f (fun _ => False) m := by
  obtain ⟨es, clock, h1, h2, h3, h4, h5, h6⟩ := h.ex
  refine ⟨clock, ?_, _, es, clock, #[], ?_, h2, h3, h4, h5, h6, (heap_alloc w _).1, by simp, rfl⟩
  · simp [Instr.range, run_underlying ht, MapKept.run_getObj_map h1, Result.andThen, newObj, Sem.run, World.alloc_eq]
  · rw [(heap_alloc w _).2 b h.lt]; exact h1
theorem same_born : ∀ {l : List MapEntry}, (l.map (·.born)).Nodup → ∀ x ∈ l, ∀ y ∈ l, x.born = y.born → x = y
  | [], _, _, h, _, _, _ => by cases h
  | z :: l, hn, x, hx, y, hy, e => by
    simp only [List.map_cons, List.nodup_cons] at hn
    rcases List.mem_cons.1 hx with rfl | hx' <;> rcases List.mem_cons.1 hy with rfl | hy'
    · rfl
    · exact absurd (by rw [e]; exact List.mem_map_of_mem hy') hn.1
    · exact absurd (by rw [← e]; exact List.mem_map_of_mem hx') hn.1
    · exact same_born hn.2 x hx' y hy' e
theorem same_key : ∀ {l : List MapEntry}, (l.map (·.key)).Nodup → ∀ x ∈ l, ∀ y ∈ l, x.key = y.key → x = y
  | [], _, _, h, _, _, _ => by cases h
  | z :: l, hn, x, hx, y, hy, e => by
    simp only [List.map_cons, List.nodup_cons] at hn
    rcases List.mem_cons.1 hx with rfl | hx' <;> rcases List.mem_cons.1 hy with rfl | hy'
    · rfl
    · exact absurd (by rw [e]; exact List.mem_map_of_mem hy') hn.1
    · exact absurd (by rw [← e]; exact List.mem_map_of_mem hx') hn.1
    · exact same_key hn.2 x hx' y hy' e
theorem count_less : ∀ {l : List MapEntry}, (l.map (·.born)).Nodup → ∀ e ∈ l, ∀ p : MapEntry → Bool, p e = true →
    (l.filter fun x => p x && !(x.born == e.born)).length + 1 = (l.filter p).length
  | [], _, _, h, _, _ => by cases h
  | z :: l, hn, e, he, p, hp => by
    simp only [List.map_cons, List.nodup_cons] at hn
    rcases List.mem_cons.1 he with rfl | he'
    · have : (l.filter fun x => p x && !(x.born == e.born)) = l.filter p := by
        apply List.filter_congr
        intro x hx
        have : x.born ≠ e.born := fun h => hn.1 (by rw [← h]; exact List.mem_map_of_mem hx)
        simp [this]
      rw [List.filter_cons_of_neg (by simp), List.filter_cons_of_pos hp, this]; rfl
    · have hne : z.born ≠ e.born := fun h => hn.1 (by rw [h]; exact List.mem_map_of_mem he')
      have ih := count_less hn.2 e he' p hp
      by_cases hz : p z = true
      · rw [List.filter_cons_of_pos (by simp [hz, hne]), List.filter_cons_of_pos hz]
        simp only [List.length_cons]; omega
      · rw [List.filter_cons_of_neg (by simp [hz]), List.filter_cons_of_neg hz]
        exact ih
theorem filter_all_none {α : Type} (l : List α) (p : α → Bool) (h : (l.filter p).length = 0) : ∀ x ∈ l, p x = false := by
  intro x hx
  cases hp : p x with
  | false => rfl
  | true =>
    have : x ∈ l.filter p := List.mem_filter.2 ⟨hx, hp⟩
    rw [List.length_eq_zero_iff.1 h] at this
    cases this
/-- Nothing is left: the range is over. -/
theorem IterIs.over {w : World} {r b : Nat} {f : Value → Option Value} {done : Value → Prop} (h : IterIs K w r b f done 0) (ty : TypeId) :
    (Instr.next (.pointer (some ⟨r, 0, none⟩)) false ty).run P w = .ok (.tuple #[.bool false]) w ∧ ∀ k v, f k = some v → done k := by
  obtain ⟨es, clock, seen, h1, h2, h3, h4, h5, h6, h7, h8, h9⟩ := h.ex
  have hall : ∀ e ∈ es.toList, seen.contains e.born = true := by
    intro e he
    have := filter_all_none es.toList (fun e => !seen.contains e.born) (by rw [← Array.toList_filter]; simpa using h9.symm) e he
    simpa using this
  have hemp : es.filter (fun e => !seen.contains e.born) = #[] := by
    apply Array.eq_empty_of_size_eq_zero; exact h9.symm
  constructor
  · have hlast : (!seen.isEmpty && !es.isEmpty && es.all fun x => decide (x.born ≥ clock)) = false := by
      cases hes : es.isEmpty with
      | true => simp
      | false =>
        have : es.all (fun x => decide (x.born ≥ clock)) = false := by
          rw [Array.all_eq_false]
          have hs : 0 < es.size := by
            rw [Array.isEmpty_eq_false_iff] at hes
            exact Array.size_pos_iff.2 hes
          exact ⟨0, hs, by simpa using h5 es[0] (by simp)⟩
        rw [this]; simp
    have hg : (getObj r).run P w = .ok (.mapIter (some b) clock seen clock) w := by simp [getObj, Sem.run, h7]
    simp only [Instr.next, Sem.run_bind, hg, Result.andThen, MapKept.run_getObj_map h1, hlast, hemp, Bool.false_eq_true, if_false]
    simp [choose, Sem.run, Question.forced]
  · intro k v hk
    rw [h6 k] at hk
    cases hf : findIn k es.toList 0 with
    | none => simp [hf] at hk
    | some p =>
      obtain ⟨n, e, _, he, hek, _⟩ := findIn_some (j := p.1) (v := p.2) hf
      have hm := List.mem_of_getElem? he
      rw [← hek]
      exact (h8 e hm).1 (hall e hm)
/-- Something is left: one of those that are comes. -/
theorem IterIs.step {w : World} {r b n : Nat} {f : Value → Option Value} {done : Value → Prop} (h : IterIs K w r b f done (n + 1)) (ty : TypeId) :
    ∃ k v w1, (Instr.next (.pointer (some ⟨r, 0, none⟩)) false ty).run P w = .ok (.tuple #[.bool true, k, v]) w1 ∧ (Instr.entry (.pointer (some ⟨r, 0, none⟩))).run P w1 = .ok (.tuple #[k, v]) w1 ∧
      f k = some v ∧ ¬ done k ∧ IterIs K w1 r b f (fun x => x = k ∨ done x) n ∧ w.grownBy w1 (some r) ∧ w1.heap.size = w.heap.size := by
  obtain ⟨es, clock, seen, h1, h2, h3, h4, h5, h6, h7, h8, h9⟩ := h.ex
  have hlt := h.lt
  have hbr : b ≠ r := by rintro rfl; rw [h1] at h7; simp at h7
  obtain ⟨left, hleft⟩ : ∃ left, left = es.filter (fun e => !seen.contains e.born) := ⟨_, rfl⟩
  have hsz : left.size = n + 1 := by rw [hleft]; exact h9.symm
  have hin : ∀ e ∈ left, e ∈ es.toList ∧ seen.contains e.born = false := by
    intro e he
    rw [hleft] at he
    have := Array.mem_filter.1 he
    exact ⟨by simpa using this.1, by simpa using this.2⟩
  have hold : left.filter (fun e => decide (e.born < clock)) = left := by
    rw [Array.filter_eq_self]
    intro e he
    simpa using h5 e (hin e he).1
  have hnew : left.filter (fun e => decide (e.born ≥ clock)) = #[] := by
    rw [Array.filter_eq_empty_iff]
    intro e he
    have := h5 e (hin e he).1
    simp; exact this
  have hemp : left.isEmpty = false := by
    rw [Array.isEmpty_eq_false_iff]
    intro e; rw [e] at hsz; simp at hsz
  have hlast : (!seen.isEmpty && !es.isEmpty && es.all fun x => decide (x.born ≥ clock)) = false := by
    cases hes : es.isEmpty with
    | true => simp
    | false =>
      have : es.all (fun x => decide (x.born ≥ clock)) = false := by
        rw [Array.all_eq_false]
        have hs : 0 < es.size := by
          rw [Array.isEmpty_eq_false_iff] at hes
          exact Array.size_pos_iff.2 hes
        exact ⟨0, hs, by simpa using h5 es[0] (by simp)⟩
      rw [this]; simp
  have hg : (getObj r).run P w = .ok (.mapIter (some b) clock seen clock) w := by simp [getObj, Sem.run, h7]
  -- the draw
  obtain ⟨i, wd, hch, hi, hwd⟩ : ∃ i wd, (choose (.mapNext (n + 1))).run P w = .ok i wd ∧ i < n + 1 ∧ (wd.heap = w.heap ∧ wd.os = w.os ∧ wd.tape = w.tape ∧ wd.output = w.output) := by
    by_cases h0 : n + 1 ≤ 1
    · exact ⟨0, w, by simp only [choose, Sem.run, Question.forced, h0, decide_true, if_true], by omega, rfl, rfl, rfl, rfl⟩
    · refine ⟨_, { w with drawn := w.drawn + 1 }, by simp only [choose, Sem.run, Question.forced, h0, decide_false, Bool.false_eq_true, if_false]; rfl, ?_, rfl, rfl, rfl, rfl⟩
      simp only [Question.cut]
      exact Nat.mod_lt _ (by omega)
  have hil : i < left.size := by omega
  obtain ⟨e, he⟩ : ∃ e, left[i]? = some e := ⟨left[i], by simp [hil]⟩
  have hem : e ∈ left := by
    rw [Array.mem_iff_getElem?]; exact ⟨i, he⟩
  obtain ⟨hes, hseen⟩ := hin e hem
  have hdone : ¬ done e.key := fun hd => by rw [(h8 e hes).2 hd] at hseen; cases hseen
  have hr7 : wd.heap[r]? = some (.mapIter (some b) clock seen clock) := by rw [hwd.1]; exact h7
  have hborn : ∀ x ∈ es.toList, x.born = e.born → x = e := by
    intro x hx hb
    exact same_born h4 x hx e hes hb
  have hfind : es.find? (·.born == e.born) = some e := by
    rw [← Array.find?_toList]
    cases hf : es.toList.find? (·.born == e.born) with
    | none => exact absurd (List.find?_eq_none.1 hf e hes) (by simp)
    | some y => rw [hborn y (List.mem_of_find?_eq_some hf) (by simpa using List.find?_some hf)]
  have hw1 : ∀ o, (setObj r o).run P wd = .ok () { wd with heap := wd.heap.setIfInBounds r o } := by
    intro o; simp [setObj, Sem.run, hr7]
  have hcand : ((if left.isEmpty = true then #[none] else #[]) ++ (left ++ #[]).map some)[i]? = some (some e) := by
    rw [hemp]; simp [he]
  have hcs : ((if left.isEmpty = true then (#[none] : Array (Option MapEntry)) else #[]) ++ (left ++ #[]).map some).size = n + 1 := by
    rw [hemp]; simp [hsz]
  refine ⟨e.key, e.val, { wd with heap := wd.heap.setIfInBounds r (.mapIter (some b) clock (seen.push e.born) clock) }, ?_, ?_, ?_, hdone, ?_, ?_, by simp [hwd.1]⟩
  · simp only [Instr.next, Sem.run_bind, hg, Result.andThen, MapKept.run_getObj_map h1, hlast, Bool.false_eq_true, if_false, ← hleft, hold, hnew, hcs, hch, hcand, hw1]
    rfl
  · have hg1 : (getObj r).run P { wd with heap := wd.heap.setIfInBounds r (.mapIter (some b) clock (seen.push e.born) clock) } = .ok (.mapIter (some b) clock (seen.push e.born) clock) { wd with heap := wd.heap.setIfInBounds r (.mapIter (some b) clock (seen.push e.born) clock) } := by
      simp [getObj, Sem.run, hwd.1, hlt]
    have hg2 : (getObj b).run P { wd with heap := wd.heap.setIfInBounds r (.mapIter (some b) clock (seen.push e.born) clock) } = .ok (.map es clock) { wd with heap := wd.heap.setIfInBounds r (.mapIter (some b) clock (seen.push e.born) clock) } := by
      simp [getObj, Sem.run, hwd.1, Ne.symm hbr, h1]
    simp [Instr.entry, hg1, hg2, Result.andThen, hfind]
  · rw [h6]
    obtain ⟨j, hj⟩ := findIn_of_mem (i := 0) h3 hes rfl
    rw [hj]; rfl
  · refine ⟨es, clock, seen.push e.born, by simp [hwd.1, Ne.symm hbr, h1], h2, h3, h4, h5, h6, by simp [hwd.1, hlt], ?_, ?_⟩
    · intro x hx
      rw [Array.contains_push]
      simp only [Bool.or_eq_true, beq_iff_eq]
      constructor
      · rintro (h' | h')
        · exact .inr ((h8 x hx).1 (by simpa using h'))
        · exact .inl (by rw [hborn x hx (by simpa using h')])
      · rintro (h' | h')
        · right
          have : x = e := same_key h3 x hx e hes h'
          rw [this]
        · exact .inl (by simpa using (h8 x hx).2 h')
    · have hc := count_less h4 e hes (fun x => !seen.contains x.born) (by simpa using hseen)
      rw [← Array.length_toList, Array.toList_filter] at h9 ⊢
      have heq : (fun x : MapEntry => !(seen.push e.born).contains x.born) = fun x => (!seen.contains x.born) && !(x.born == e.born) := by
        funext x
        rw [Array.contains_push, Bool.not_or]
      rw [heq]
      omega
  · refine ⟨hwd.2.1, hwd.2.2.1, hwd.2.2.2, by simp [hwd.1], fun k hk hne => ?_⟩
    have : r ≠ k := fun e => hne (by rw [e])
    simp [hwd.1, this]
/-- How many entries are left. -/
def iterLeft (w : World) (r b : Nat) : Nat := match w.heap[r]?, w.heap[b]? with
  | some (.mapIter _ _ seen _), some (.map es _) => (es.filter fun e => !seen.contains e.born).size
  | _, _ => 0
theorem IterIs.left {w : World} {r b n : Nat} {f : Value → Option Value} {done : Value → Prop} (h : IterIs K w r b f done n) : iterLeft w r b = n := by
  obtain ⟨es, clock, seen, h1, h2, h3, h4, h5, h6, h7, h8, h9⟩ := h.ex
  simp only [iterLeft, h1, h7]
  exact h9.symm
section
variable {ops : Array Oper} {rest : List Oper} {o : Oper} {a : Act} {Q : Exit → Act → World → Prop}
/-- A store, at its operation. -/
theorem wpList_store (w : World) (hg : o.guard = none) (m x v : Operand) (t : TypeId) (hop : o.op = Op.mapUpdate t m x v) (k e : TypeId) (ht : P.underlying t = some (.map k e)) (KO : KeyOk P k K) (b : Nat) (f : Value → Option Value)
    (hm : a.eval m = .map (some b)) (hown : MapIs K w b f) (key val : Value) (hx : a.eval x = key) (hv : a.eval v = val) (hkey : K key)
    (hK : ∀ w', MapIs K w' b (upd f key val) → w.grownBy w' (some b) → w'.heap.size = w.heap.size → wpList P ops Q rest (a.put o.dst undef) w') :
    wpList P ops Q (o :: rest) a w := by
  refine wpList_plain hg fun K' hK' => ?_
  obtain ⟨w', hrun, r1, r2, r3, _⟩ := hown.update KO ht hkey val
  unfold Oper.wp
  simp [execOp, hop, hm, hx, hv, hrun, Result.andThen]
  exact hK' _ _ (hK w' r1 r2 r3)
/-- A look-up that also tells whether the key is there. -/
theorem wpList_look2 (w : World) (hg : o.guard = none) (m x : Operand) (t : TypeId) (hop : o.op = Op.lookup t m x true) (k e : TypeId) (ht : P.underlying t = some (.map k e)) (KO : KeyOk P k K) (b : Nat) (f : Value → Option Value)
    (z : Value) (hz : (zeroValue e).run P w = .ok z w) (hm : a.eval m = .map (some b)) (hown : MapIs K w b f) (key : Value) (hx : a.eval x = key) (hkey : K key)
    (hK : ∀ v ok, v = (f key).getD z → ok = (f key).isSome → wpList P ops Q rest (a.put o.dst (.tuple #[v, .bool ok])) w) :
    wpList P ops Q (o :: rest) a w := by
  refine wpList_plain hg fun K' hK' => ?_
  have hrun := hown.look KO ht hkey z hz true
  simp only [if_true] at hrun
  unfold Oper.wp
  simp [execOp, hop, hm, hx, hrun, Result.andThen]
  exact hK' _ _ (hK _ _ rfl rfl)
/-- A look-up. -/
theorem wpList_look1 (w : World) (hg : o.guard = none) (m x : Operand) (t : TypeId) (hop : o.op = Op.lookup t m x false) (k e : TypeId) (ht : P.underlying t = some (.map k e)) (KO : KeyOk P k K) (b : Nat) (f : Value → Option Value)
    (z : Value) (hz : (zeroValue e).run P w = .ok z w) (hm : a.eval m = .map (some b)) (hown : MapIs K w b f) (key : Value) (hx : a.eval x = key) (hkey : K key)
    (hK : ∀ v, v = (f key).getD z → wpList P ops Q rest (a.put o.dst v) w) :
    wpList P ops Q (o :: rest) a w := by
  refine wpList_plain hg fun K' hK' => ?_
  have hrun := hown.look KO ht hkey z hz false
  simp only [Bool.false_eq_true, if_false] at hrun
  unfold Oper.wp
  simp [execOp, hop, hm, hx, hrun, Result.andThen]
  exact hK' _ _ (hK _ rfl)
end
end
end Go.Proofs.YtbjkdnbmgoibiaaGreatDoor
