/-
  A world (chapter 10) over nothing: what its memory holds; what is known of an address; one change.
-/
import Derived.Test.YtbjkdnbmgoibiaaGreatDoorMap2
import Derived.Test.YtbjkdnbmgoibiaaGreatDoorWw
import Derived.Deep.AppendLies
import Derived.Deep.RegionLaw
namespace Go.Proofs.YtbjkdnbmgoibiaaGreatDoor
open Go.RowKit Go.MapKept
attribute [local go_sem ↓] Go.wp_at_zero Go.wp_at_succ
/-- An account. -/
structure Ac where
  nonce : Nat
  bal : Wd
  code : ByteArray
def Ac.zero : Ac := ⟨0, Wd.zero, ByteArray.empty⟩
abbrev acv (a : Ac) : Value := .agg #[.int .u64 (a.nonce : Int), .int .u64 (a.bal.a : Int), .int .u64 (a.bal.b : Int), .int .u64 (a.bal.c : Int), .int .u64 (a.bal.d : Int), .string a.code]
abbrev acCells (a : Ac) : Array Value := #[.int .u64 (a.nonce : Int), .int .u64 (a.bal.a : Int), .int .u64 (a.bal.b : Int), .int .u64 (a.bal.c : Int), .int .u64 (a.bal.d : Int), .string a.code]
/-- Texts as keys. -/
def KS : Value → Prop := IsKey .string
theorem ks (s : ByteArray) : KS (.string s) := by unfold KS; simp [IsKey]
theorem koS : KeyOk Tryz.prog 9 KS := keyOk_plain Tryz.underlying9 sameBits_string
/-- A slot's place. -/
abbrev plv (s : ByteArray) (k : Wd) : Value := .agg #[.string s, .int .u64 (k.a : Int), .int .u64 (k.b : Int), .int .u64 (k.c : Int), .int .u64 (k.d : Int)]
def KP (v : Value) : Prop := ∃ s k, v = plv s k
/-- What a world holds. -/
structure St where
  acc : ByteArray → Option Ac
  slo : ByteArray → Wd → Option Wd
  wip : ByteArray → Bool
def St.empty : St := ⟨fun _ => none, fun _ _ => none, fun _ => false⟩
/-- Accounts as a map's. -/
def accF (f : ByteArray → Option Ac) : Value → Option Value
  | .string s => (f s).map acv
  | _ => none
/-- A value as a place. -/
def plOf : Value → Option (ByteArray × Wd)
  | .agg cs => (match cs.toList with
    | [.string s, .int .u64 a, .int .u64 b, .int .u64 c, .int .u64 d] => some (s, ⟨a.toNat, b.toNat, c.toNat, d.toNat⟩)
    | _ => none)
  | _ => none
def sloF (f : ByteArray → Wd → Option Wd) (v : Value) : Option Value := (plOf v).bind fun x => (f x.1 x.2).map wv
theorem plOf_plv (s : ByteArray) (k : Wd) : plOf (plv s k) = some (s, k) := rfl
def wipF (f : ByteArray → Bool) : Value → Option Value
  | .string s => if f s then some (.agg #[]) else none
  | _ => none
/-- The three maps. -/
structure Maps3 (w : World) (ba bs bz : Nat) (S : St) : Prop where
  acc : MapIs KS w ba (accF S.acc)
  slo : MapIs KP w bs (sloF S.slo)
  wip : MapIs KS w bz (wipF S.wip)
  ne1 : ba ≠ bs
  ne2 : ba ≠ bz
  ne3 : bs ≠ bz
def three (ba bs bz k : Nat) : Prop := k = ba ∨ k = bs ∨ k = bz
/-- A call of this function enters its text. -/
def Enters (f : FuncId) : Prop := ∀ (args : Array Value) (W : World), (callFunc f args).run Tryz.prog W = .ok (.enter f args) W
theorem enters_of {f : FuncId} {fn : Func} (hf : Tryz.prog.funcs[f]? = some fn) (hname : (fn.name == "runtime.NumGoroutine") = false) (hb : fn.body.isNone = false) : Enters f := by
  intro args W
  have h1 : fn.name ≠ "runtime.NumGoroutine" := by simpa using hname
  have h2 : fn.body ≠ none := by intro e; rw [e] at hb; cases hb
  simp [callFunc, hf, h1, h2]
/-- A function value that takes a change back: called where the world is T, it leaves S; it reads blocks that nobody writes. -/
def UndoIs (w : World) (p ba bs bz : Nat) (v : Value) (T S : St) : Prop :=
  ∃ (id : FuncId) (caps : Array Value) (F : Nat → Prop), v = .func (.func id) #[] caps ∧ Enters id ∧ (∀ b, F b → b < w.heap.size ∧ ¬ Foot w p b) ∧
    ∀ w', (∀ b, F b → w'.heap[b]? = w.heap[b]?) → (∃ c u, w'.heap[p]? = some (.cells #[.map (some ba), .map (some bs), .map (some bz), c, u] 101 (0, 0))) → Maps3 w' ba bs bz T →
      Calls Tryz.prog id caps w' fun e w'' => e = .returned (.tuple #[]) ∧ Maps3 w'' ba bs bz S ∧ Only (three ba bs bz) w' w''
/-- A world's memory in the midst of a change: what it holds now, and what it held ahead of each change that can be taken back, the last one ahead of the change that goes on. -/
structure WMid (w : World) (p : Nat) (c : Value) (T : St) (H : List St) (S : St) : Prop where
  ex : ∃ ba bs bz u fs, w.heap[p]? = some (.cells #[.map (some ba), .map (some bs), .map (some bz), c, u] 101 (0, 0)) ∧ Maps3 w ba bs bz T ∧
    w.ownsRow 0 1 1 u H.length fs ∧ (∀ i v A R, fs[i]? = some v → (H ++ [S])[i + 1]? = some A → H[i]? = some R → UndoIs w p ba bs bz v A R) ∧
    p ≠ ba ∧ p ≠ bs ∧ p ≠ bz ∧ u.ownBlock ≠ some p ∧ u.ownBlock ≠ some ba ∧ u.ownBlock ≠ some bs ∧ u.ownBlock ≠ some bz ∧ vblock c = none
/-- A world's memory: what it holds now, and what it held ahead of each change that can be taken back. -/
abbrev WIs (w : World) (p : Nat) (c : Value) (S : St) (H : List St) : Prop := WMid w p c S H S
theorem Maps3.of_blocks {w w' : World} {ba bs bz : Nat} {S : St} (h : Maps3 w ba bs bz S) (h1 : w'.heap[ba]? = w.heap[ba]?) (h2 : w'.heap[bs]? = w.heap[bs]?) (h3 : w'.heap[bz]? = w.heap[bz]?) : Maps3 w' ba bs bz S :=
  ⟨h.acc.of_block h1, h.slo.of_block h2, h.wip.of_block h3, h.ne1, h.ne2, h.ne3⟩
theorem UndoIs.keep {w w' : World} {p ba bs bz : Nat} {v : Value} {T S : St} (h : UndoIs w p ba bs bz v T S) (hm : Moved p w w') : UndoIs w' p ba bs bz v T S := by
  obtain ⟨id, caps, F, rfl, he, hF, hc⟩ := h
  refine ⟨id, caps, F, rfl, he, fun b hb => ⟨Nat.lt_of_lt_of_le (hF b hb).1 hm.only.size, fun f => (hF b hb).2 (hm.foot b (hF b hb).1 f)⟩, fun w2 hw hp hm3 => hc w2 (fun b hb => ?_) hp hm3⟩
  rw [hw b hb]
  exact hm.only.block b (hF b hb).1 (hF b hb).2
theorem WMid.lt {w : World} {p : Nat} {c : Value} {T S : St} {H : List St} (h : WMid w p c T H S) : p < w.heap.size := by
  obtain ⟨ba, bs, bz, u, fs, h1, _⟩ := h.ex
  exact (Array.getElem?_eq_some_iff.1 h1).1
theorem ownsRow_of_block {w w' : World} {base : Nat} {e : TypeId} {size : Nat} {v : Value} {n : Nat} {xs : List Value} (h : w.ownsRow base e size v n xs) (hb : ∀ k, v.ownBlock = some k → w'.heap[k]? = w.heap[k]?) : w'.ownsRow base e size v n xs := by
  refine ⟨h.1, ?_⟩
  rcases h.2 with hn | ⟨g, cap, cur, rfl, hb', hgg, rest⟩
  · exact .inl hn
  · exact .inr ⟨g, cap, cur, rfl, hb', by rw [hb g rfl]; exact hgg, rest⟩
/-- New blocks turn nothing of a world. -/
theorem WMid.below {w w' : World} {p : Nat} {c : Value} {T S : St} {H : List St} (h : WMid w p c T H S) (hb : Below w.heap.size w w') : WMid w' p c T H S := by
  obtain ⟨ba, bs, bz, u, fs, h1, h2, h3, h4, h5⟩ := h.ex
  have hp := h.lt
  refine ⟨ba, bs, bz, u, fs, by rw [hb.block p hp]; exact h1, h2.of_blocks (hb.block _ h2.acc.lt) (hb.block _ h2.slo.lt) (hb.block _ h2.wip.lt), ownsRow_of_block h3 fun k hk => hb.block k (h3.lt k hk).2, fun i v T R g1 g2 g3 => (h4 i v T R g1 g2 g3).keep (Moved.of_below hb hp), h5⟩
/-- Are all of them addresses? -/
def good (l : List ByteArray) : Bool := l.all fun s => s.size == 20
theorem right1_any (s : ByteArray) (w : World) (_hs : s.size ≤ 9223372036854775807) :
    Calls Tryz.prog 90 #[.string s] w fun e w' => e = .returned (.bool (!(s.size == 20))) ∧ w = w' := by
  go_enter Tryz.func90, Tryz.ntmps90
  go_wp2
  go_ret
  refine ⟨retb ?_, rfl⟩
  rw [Bool.eq_iff_iff]; simp; try omega
def IdxPost (l : List ByteArray) (w : World) (e : Ending) (w' : World) : Prop := ∃ r : Int, e = .returned (.int .i64 r) ∧ decide (0 ≤ r) = !(good l) ∧ w = w'
theorem good_take {l : List ByteArray} {k : Nat} (h : k < l.length) : good (l.take (k + 1)) = (good (l.take k) && (l[k]'h).size == 20) := by
  unfold good
  rw [List.take_succ_eq_append_getElem h, List.all_append]; simp
theorem good_all {l : List ByteArray} {k : Nat} (h : k < l.length) (hb : ((l[k]'h).size == 20) = false) : good l = false := by
  unfold good
  rw [List.all_eq_false]
  exact ⟨l[k]'h, List.getElem_mem h, by simpa using hb⟩
set_option maxHeartbeats 1000000 in
theorem indexFunc_any (l : List ByteArray) (b : Nat) (w : World) (hl : l.length ≤ 100) (hc : ∀ j (h : j < l.length), w.cell? ⟨b, j, none⟩ = some (.string (l[j]'h))) (hs : ∀ s ∈ l, s.size ≤ 9223372036854775807) :
    Calls Tryz.prog 136 #[.slice (some ⟨b, 0, none⟩) l.length l.length, .func (.func 90) #[] #[]] w (IdxPost l w) := by
  have Hc := Lib.hid hc; clear hc
  have Hs := Lib.hid hs; clear hs
  go_enter Tryz.func136, Tryz.ntmps136
  go_wp2_with fail
  go_loop [8] (fun i => ∃ k : Nat, i = .int .i64 k ∧ k ≤ l.length ∧ Hid (good (l.take k) = true)) (fun i => l.length - (intOf i).toNat)
  case atStart => exact ⟨0, rfl, by omega, by unfold Hid good; simp⟩
  case round =>
    obtain ⟨k, rfl, hk, hg⟩ := hrel
    by_cases hlt : k < l.length
    · have c0 := Hc.out k hlt
      have hz := Hs.out _ (List.getElem_mem hlt)
      have hstep := Lib.hid (good_take hlt)
      have hall := fun hb => Lib.hid (good_all hlt hb)
      generalize l[k]'hlt = s at c0 hz hstep hall
      have q0 : (0 : Int) ≤ (k : Int) := by omega
      have q1 : (k : Int) < (l.length : Int) := by omega
      by_cases h20 : (s.size == 20) = true
      · go_wp2_with fail
        refine (right1_any s _ hz).mono ?_
        rintro e w1 ⟨rfl, rfl⟩
        rw [h20]
        go_wp2_with fail
        exact ⟨⟨k + 1, by go_num, by omega, by unfold Hid; rw [hstep.out, hg.out, h20]; rfl⟩, by simp [intOf]; omega⟩
      · have h20' : (s.size == 20) = false := by simpa using h20
        have hall' := hall h20'
        clear h20 hall
        go_wp2_with fail
        refine (right1_any s _ hz).mono ?_
        rintro e w1 ⟨rfl, rfl⟩
        rw [h20']
        go_wp2_with fail
        go_ret
        exact ⟨(k : Int), rfl, by rw [hall'.out]; simp, rfl⟩
    · go_wp2_with fail
      go_ret
      have e1 := hg.out
      rw [List.take_of_length_le (by omega)] at e1
      exact ⟨-1, rfl, by rw [e1]; decide, rfl⟩
set_option maxHeartbeats 1000000 in
theorem right_any (l : List ByteArray) (b : Nat) (w : World) (hl : l.length ≤ 100) (hc : ∀ j (h : j < l.length), w.cell? ⟨b, j, none⟩ = some (.string (l[j]'h))) (hs : ∀ s ∈ l, s.size ≤ 9223372036854775807) :
    Calls Tryz.prog 45 #[.slice (some ⟨b, 0, none⟩) l.length l.length] w fun e w' => e = .returned (.bool (good l)) ∧ w = w' := by
  have H := fun W => Lib.hid (indexFunc_any l b W hl)
  have Hc := Lib.hid hc; clear hc
  have Hs := Lib.hid hs; clear hs
  have cf : ∀ W : World, W = w → Calls Tryz.prog 89 #[.slice (some ⟨b, 0, none⟩) l.length l.length, .func (.func 90) #[] #[]] W fun e w' => e = .returned (.bool (!(good l))) ∧ W = w' := by
    rintro W rfl
    go_enter Tryz.func89, Tryz.ntmps89
    go_wp2_with fail
    refine ((H _).out Hc.out Hs.out).mono ?_
    rintro e w1 ⟨r, rfl, hr, rfl⟩
    have Hr := Lib.hid hr; clear hr
    go_wp2_with fail
    go_ret
    exact ⟨retb (by rw [← Hr.out]), rfl⟩
  have Cf := Lib.hid cf; clear cf
  go_enter Tryz.func45, Tryz.ntmps45
  go_wp2_with fail
  refine (Cf.out _ rfl).mono ?_
  rintro e w1 ⟨rfl, rfl⟩
  go_wp2_with fail
  go_ret
  exact ⟨retb (by simp), rfl⟩
/-- The statements' addresses. -/
def adrL (n : Nat) : List UInt8 := match n % 5 with
  | 0 => [97, 97, 97, 97, 97, 97, 97, 97, 97, 97, 97, 97, 97, 97, 97, 97, 97, 97, 97, 97]
  | 1 => [98, 98, 98, 98, 98, 98, 98, 98, 98, 98, 98, 98, 98, 98, 98, 98, 98, 98, 98, 98]
  | 2 => [99, 99, 99, 99, 99, 99, 99, 99, 99, 99, 99, 99, 99, 99, 99, 99, 99, 99, 99, 99]
  | 3 => [115, 104, 111, 114, 116]
  | _ => [100, 100, 100, 100, 100, 100, 100, 100, 100, 100, 100, 100, 100, 100, 100, 100, 100, 100, 100, 100]
def adr (n : Nat) : ByteArray := ⟨(adrL n).toArray⟩
theorem adr_size (n : Nat) : (adr n).size = if n % 5 = 3 then 5 else 20 := by
  have h : n % 5 < 5 := Nat.mod_lt _ (by omega)
  unfold adr adrL
  match n % 5, h with
  | 0, _ => rfl
  | 1, _ => rfl
  | 2, _ => rfl
  | 3, _ => rfl
  | 4, _ => rfl
theorem adr_ne {n m : Nat} (h : n % 5 ≠ m % 5) : adr n ≠ adr m := by
  intro e
  have e' : adrL n = adrL m := str_inj e
  have h1 : n % 5 < 5 := Nat.mod_lt _ (by omega)
  have h2 : m % 5 < 5 := Nat.mod_lt _ (by omega)
  unfold adrL at e'
  revert e' h
  generalize n % 5 = a at *
  generalize m % 5 = b at *
  match a, h1, b, h2 with
  | 0, _, 0, _ => simp
  | 0, _, 1, _ => simp
  | 0, _, 2, _ => simp
  | 0, _, 3, _ => simp
  | 0, _, 4, _ => simp
  | 1, _, 0, _ => simp
  | 1, _, 1, _ => simp
  | 1, _, 2, _ => simp
  | 1, _, 3, _ => simp
  | 1, _, 4, _ => simp
  | 2, _, 0, _ => simp
  | 2, _, 1, _ => simp
  | 2, _, 2, _ => simp
  | 2, _, 3, _ => simp
  | 2, _, 4, _ => simp
  | 3, _, 0, _ => simp
  | 3, _, 1, _ => simp
  | 3, _, 2, _ => simp
  | 3, _, 3, _ => simp
  | 3, _, 4, _ => simp
  | 4, _, 0, _ => simp
  | 4, _, 1, _ => simp
  | 4, _, 2, _ => simp
  | 4, _, 3, _ => simp
  | 4, _, 4, _ => simp
set_option maxHeartbeats 1000000 in
set_option maxRecDepth 100000 in
theorem address_any (n : Nat) (w : World) (hn : n < 256) :
    Calls Tryz.prog 12 #[.int .u8 (n : Int)] w fun e w' => e = .returned (.string (adr n)) ∧ Below w.heap.size w w' := by
  have hm : n % 5 < 5 := Nat.mod_lt _ (by omega)
  have hi : (n : Int).tmod 5 = ((n % 5 : Nat) : Int) := by
    rw [Int.tmod_eq_emod_of_nonneg (by omega)]; omega
  unfold adr adrL
  obtain ⟨r, hr⟩ : ∃ r, r = n % 5 := ⟨_, rfl⟩
  rw [← hr] at hm hi ⊢
  clear hr
  have q0 : (0 : Int) ≤ (n : Int) := by omega
  match r, hm with
  | 0, _ =>
    go_enter Tryz.func12, Tryz.ntmps12
    go_wp2_with fail
    go_ret
    exact ⟨rfl, (Below.refl _ _).alloc (Nat.le_refl _) _⟩
  | 1, _ =>
    go_enter Tryz.func12, Tryz.ntmps12
    go_wp2_with fail
    go_ret
    exact ⟨rfl, (Below.refl _ _).alloc (Nat.le_refl _) _⟩
  | 2, _ =>
    go_enter Tryz.func12, Tryz.ntmps12
    go_wp2_with fail
    go_ret
    exact ⟨rfl, (Below.refl _ _).alloc (Nat.le_refl _) _⟩
  | 3, _ =>
    go_enter Tryz.func12, Tryz.ntmps12
    go_wp2_with fail
    go_ret
    exact ⟨rfl, (Below.refl _ _).alloc (Nat.le_refl _) _⟩
  | 4, _ =>
    go_enter Tryz.func12, Tryz.ntmps12
    go_wp2_with fail
    go_ret
    exact ⟨rfl, (Below.refl _ _).alloc (Nat.le_refl _) _⟩
set_option maxHeartbeats 1000000 in
theorem none_ex (w : World) :
    Calls Tryz.prog 42 #[] w fun e w' => e = .returned (.agg #[.map (some (w.heap.size + 1)), .map (some (w.heap.size + 2)), .map (some (w.heap.size + 3))]) ∧
      w' = (((w.alloc (Obj.cells #[.map (some (w.heap.size + 1)), .map (some (w.heap.size + 2)), .map (some (w.heap.size + 3))] 97)).alloc (.map #[] 0)).alloc (.map #[] 0)).alloc (.map #[] 0) := by
  have hmm := @run_makeMap Tryz.prog
  go_enter Tryz.func42, Tryz.ntmps42
  go_wp2_with fail
  refine bodyPost_ret (results_row Tryz.results42 _ _ w.heap.size _ _ _ _ rfl (by rw [alloc_block (by simp only [World.size_alloc]; omega), alloc_block (by simp only [World.size_alloc]; omega), alloc_block (by simp only [World.size_alloc]; omega)]; exact newest _ _) Tryz.underlying97 rfl (by kernel_rfl)) rfl ⟨rfl, rfl⟩
theorem accF_empty : accF St.empty.acc = fun _ => none := by
  funext v; unfold accF; split <;> rfl
theorem sloF_empty : sloF St.empty.slo = fun _ => none := by
  funext v; unfold sloF; cases plOf v <;> rfl
theorem wipF_empty : wipF St.empty.wip = fun _ => none := by
  funext v; unfold wipF; split <;> rfl
set_option maxHeartbeats 1000000 in
theorem new_any (w : World) :
    Calls Tryz.prog 10 #[.pointer none] w fun e w' => e = .returned (.pointer (some ⟨w.heap.size + 4, 0, none⟩)) ∧ WIs w' (w.heap.size + 4) (.pointer none) St.empty [] ∧ Below w.heap.size w w' ∧ ∀ k, Foot w' (w.heap.size + 4) k → w.heap.size ≤ k := by
  go_enter Tryz.func10, Tryz.ntmps10
  go_wp2_with fail
  refine (none_ex w).mono ?_
  rintro e w1 ⟨rfl, rfl⟩
  go_wp2_with fail
  go_ret
  refine ⟨rfl, ?_, ?_, ?_⟩
  · refine ⟨w.heap.size + 1, w.heap.size + 2, w.heap.size + 3, .slice none 0 0, [], ?_, ⟨?_, ?_, ?_, by omega, by omega, by omega⟩, World.ownsRow_nil _ _ _ _, fun i v T R h => by simp at h, by omega, by omega, by omega, by simp [Value.ownBlock], by simp [Value.ownBlock], by simp [Value.ownBlock], by simp [Value.ownBlock], rfl⟩
    · rw [at_al, if_pos (by simp only [World.size_alloc])]
    · rw [accF_empty]
      exact ⟨#[], 0, by (rw [at_al, if_neg (by simp only [World.size_alloc]; omega), at_al, if_neg (by simp only [World.size_alloc]; omega), at_al, if_neg (by simp only [World.size_alloc]; omega), at_al, if_pos (by simp only [World.size_alloc])]), by simp, by simp, by simp, by simp, fun _ => rfl⟩
    · rw [sloF_empty]
      exact ⟨#[], 0, by (rw [at_al, if_neg (by simp only [World.size_alloc]; omega), at_al, if_neg (by simp only [World.size_alloc]; omega), at_al, if_pos (by simp only [World.size_alloc])]), by simp, by simp, by simp, by simp, fun _ => rfl⟩
    · rw [wipF_empty]
      exact ⟨#[], 0, by (rw [at_al, if_neg (by simp only [World.size_alloc]; omega), at_al, if_pos (by simp only [World.size_alloc])]), by simp, by simp, by simp, by simp, fun _ => rfl⟩
  · exact (((((Below.refl _ _).alloc (Nat.le_refl _) _).alloc (by simp only [World.size_alloc]; omega) _).alloc (by simp only [World.size_alloc]; omega) _).alloc (by simp only [World.size_alloc]; omega) _).alloc (by simp only [World.size_alloc]; omega) _
  · intro k hk
    rcases hk with rfl | ⟨cs, t, fr, h1, v, hv, hk⟩
    · omega
    · rw [at_al, if_pos (by simp only [World.size_alloc])] at h1
      simp only [Option.some.injEq, Obj.cells.injEq] at h1
      obtain ⟨rfl, _⟩ := h1
      simp at hv
      rcases hv with rfl | rfl | rfl | rfl | rfl <;> simp [vblock] at hk <;> omega
theorem right_one (a : ByteArray) (b : Nat) (w : World) (hc : w.cell? ⟨b, 0, none⟩ = some (.string a)) (hs : a.size ≤ 9223372036854775807) :
    Calls Tryz.prog 45 #[.slice (some ⟨b, 0, none⟩) 1 1] w fun e w' => e = .returned (.bool (a.size == 20)) ∧ w = w' := by
  have h := right_any [a] b w (by simp) (fun j hj => by have : j = 0 := by simpa using hj
                                                        subst this; exact hc) (by simpa using hs)
  have e : good [a] = (a.size == 20) := by simp [good]
  rw [e] at h
  exact h
theorem right_two (a a' : ByteArray) (b : Nat) (w : World) (hc : w.cell? ⟨b, 0, none⟩ = some (.string a)) (hc' : w.cell? ⟨b, 1, none⟩ = some (.string a')) (hs : a.size ≤ 9223372036854775807) (hs' : a'.size ≤ 9223372036854775807) :
    Calls Tryz.prog 45 #[.slice (some ⟨b, 0, none⟩) 2 2] w fun e w' => e = .returned (.bool (a.size == 20 && a'.size == 20)) ∧ w = w' := by
  have h := right_any [a, a'] b w (by simp) (fun j hj => by
    match j, hj with
    | 0, _ => exact hc
    | 1, _ => exact hc') (by simpa using ⟨hs, hs'⟩)
  have e : good [a, a'] = (a.size == 20 && a'.size == 20) := by simp [good]
  rw [e] at h
  exact h
theorem zero_ac (w : World) : (zeroValue 33).run Tryz.prog w = .ok (acv Ac.zero) w := by kernel_rfl
/-- What is known of an address over nothing. -/
def St.account (S : St) (a : ByteArray) : Ac := (S.acc a).getD Ac.zero
theorem acc_look {W : World} {ba : Nat} {S : St} (h : MapIs KS W ba (accF S.acc)) (a : ByteArray) :
    (Instr.lookup 93 (.map (some ba)) (.string a) true).run Tryz.prog W = .ok (.tuple #[acv (S.account a), .bool (S.acc a).isSome]) W := by
  rw [h.look koS Tryz.underlying93 (ks a) (acv Ac.zero) (zero_ac W) true]
  have e : accF S.acc (.string a) = (S.acc a).map acv := rfl
  rw [e]
  unfold St.account
  cases S.acc a <;> rfl
set_option maxHeartbeats 2000000 in
theorem account_any (a : ByteArray) (p : Nat) (S : St) (H : List St) (w : World) (hw : WIs w p (.pointer none) S H) (ha : a.size = 20) :
    Calls Tryz.prog 14 #[.pointer (some ⟨p, 0, none⟩), .string a] w fun e w' => e = .returned (.tuple #[acv (S.account a), .int .i64 0]) ∧ Below w.heap.size w w' := by
  obtain ⟨ba, bs, bz, u, fs, h1, hm, _⟩ := hw.ex
  have hp := hw.lt
  have hr := fun W hc => Lib.hid (right_one a (w.heap.size + 1) W hc (by omega))
  rw [show (a.size == 20) = true from by simp [ha]] at hr
  have c0 : w.cell? ⟨p, 0, none⟩ = some (.map (some ba)) := cell_of h1 0
  have c3 : w.cell? ⟨p, 3, none⟩ = some (.pointer none) := cell_of h1 3
  have hlt := hm.acc.lt
  have hp1 : p < w.heap.size + 1 := by omega
  have hp2 : p < w.heap.size + 1 + 1 := by omega
  have hl := fun o o' => acc_look (W := (w.alloc o).alloc o') (hm.acc.of_block (by rw [alloc_block (by simp only [World.size_alloc]; omega), alloc_block hlt])) a
  have H1 := Lib.hid h1; have HM := Lib.hid hm; have Ha := Lib.hid ha
  clear h1 hm ha hw
  obtain ⟨x, hx⟩ : ∃ x, x = S.account a := ⟨_, rfl⟩
  obtain ⟨ok, hok⟩ : ∃ ok, ok = (S.acc a).isSome := ⟨_, rfl⟩
  rw [← hx, ← hok] at hl
  rw [← hx]
  clear hx hok
  go_enter Tryz.func14, Tryz.ntmps14
  go_wp2_with fail
  refine (hr _ (cell_of (newest2 _ _ _) 0)).out.mono ?_
  rintro e w1 ⟨rfl, rfl⟩
  clear hr
  cases ok
  all_goals
    go_wp2_with fail
    refine bodyPost_ret (results_row_tmp Tryz.results14 _ _ w.heap.size _ _ _ _ rfl (by rw [alloc_block (by simp only [World.size_alloc]; omega), alloc_block (by simp only [World.size_alloc]; omega)]; exact newest _ _) Tryz.underlying33 rfl (by kernel_rfl)) rfl ⟨rfl, ?_⟩
    exact (((Below.refl _ _).alloc (Nat.le_refl _) _).alloc (by simp only [World.size_alloc]; omega) _).alloc (by simp only [World.size_alloc]; omega) _
set_option maxHeartbeats 2000000 in
theorem account_bad (a : ByteArray) (v : Value) (w : World) (ha : a.size ≠ 20) (hs : a.size ≤ 9223372036854775807) :
    Calls Tryz.prog 14 #[v, .string a] w fun e w' => e = .returned (.tuple #[acv Ac.zero, .int .i64 1]) ∧ Below w.heap.size w w' := by
  have hr := fun W hc => Lib.hid (right_one a (w.heap.size + 1) W hc hs)
  rw [show (a.size == 20) = false from by simp [ha]] at hr
  go_enter Tryz.func14, Tryz.ntmps14
  go_wp2_with fail
  refine (hr _ (cell_of (newest2 _ _ _) 0)).out.mono ?_
  rintro e w1 ⟨rfl, rfl⟩
  clear hr
  go_wp2_with fail
  refine bodyPost_ret (results_row_tmp Tryz.results14 _ _ w.heap.size _ _ _ _ rfl (by rw [alloc_block (by simp only [World.size_alloc]; omega)]; exact newest _ _) Tryz.underlying33 rfl (by kernel_rfl)) rfl ⟨rfl, ?_⟩
  exact ((Below.refl _ _).alloc (Nat.le_refl _) _).alloc (by simp only [World.size_alloc]; omega) _
open Classical in
/-- A text's entry, turned. -/
noncomputable def turn {α : Type} (f : ByteArray → Option α) (k : ByteArray) (x : Option α) : ByteArray → Option α := fun s => if s = k then x else f s
theorem turn_same {α : Type} (f : ByteArray → Option α) (k : ByteArray) (x : Option α) : turn f k x k = x := by simp [turn]
theorem turn_other {α : Type} {f : ByteArray → Option α} {k s : ByteArray} {x : Option α} (h : s ≠ k) : turn f k x s = f s := by simp [turn, h]
theorem turn_back {α : Type} (f : ByteArray → Option α) (k : ByteArray) (x : Option α) : turn (turn f k x) k (f k) = f := by
  funext s
  by_cases h : s = k
  · subst h; rw [turn_same]
  · rw [turn_other h, turn_other h]
theorem accF_upd (f : ByteArray → Option Ac) (k : ByteArray) (x : Ac) : upd (accF f) (.string k) (acv x) = accF (turn f k (some x)) := by
  funext v
  by_cases h : v = .string k
  · subst h
    rw [upd_same]; show _ = (turn f k (some x) k).map acv
    rw [turn_same]; rfl
  · rw [upd_other h]
    cases v <;> try rfl
    rename_i s
    show (f s).map acv = (turn f k (some x) s).map acv
    rw [turn_other (fun e => h (by rw [e]))]
theorem accF_del (f : ByteArray → Option Ac) (k : ByteArray) : del (accF f) (.string k) = accF (turn f k none) := by
  funext v
  by_cases h : v = .string k
  · subst h
    rw [del_same]; show _ = (turn f k none k).map acv
    rw [turn_same]; rfl
  · rw [del_other h]
    cases v <;> try rfl
    rename_i s
    show (f s).map acv = (turn f k none s).map acv
    rw [turn_other (fun e => h (by rw [e]))]
/-- The boxes of a change of an account. -/
structure SetBox (w : World) (n b : Nat) (k : ByteArray) (old : Ac) (ok : Bool) : Prop where
  m : w.heap[n]? = some (.cells #[.map (some b)] 93 (0, 0))
  k : w.heap[n + 1]? = some (.cells #[.string k] 9 (0, 0))
  o : w.heap[n + 3]? = some (.cells (acCells old) 33 (0, 0))
  y : w.heap[n + 4]? = some (.cells #[.bool ok] 4 (0, 0))
/-- The function that takes it back. -/
abbrev setFn (n : Nat) : Value := .func (.func 91) #[] #[.pointer (some ⟨n + 4, 0, none⟩), .pointer (some ⟨n + 3, 0, none⟩), .pointer (some ⟨n, 0, none⟩), .pointer (some ⟨n + 1, 0, none⟩)]
set_option maxHeartbeats 2000000 in
set_option maxRecDepth 100000 in
theorem set_any (b : Nat) (k : ByteArray) (v : Ac) (f : ByteArray → Option Ac) (w : World) (hm : MapIs KS w b (accF f)) :
    Calls Tryz.prog 47 #[.map (some b), .string k, acv v] w fun e w' => e = .returned (setFn w.heap.size) ∧ MapIs KS w' b (accF (turn f k (some v))) ∧
      SetBox w' w.heap.size b k ((f k).getD Ac.zero) (f k).isSome ∧ Only (· = b) w w' ∧ w'.heap.size = w.heap.size + 5 := by
  have hlt := hm.lt
  have hl : ∀ W : World, W.heap[b]? = w.heap[b]? → (Instr.lookup 93 (.map (some b)) (.string k) true).run Tryz.prog W = .ok (.tuple #[acv ((f k).getD Ac.zero), .bool (f k).isSome]) W := by
    intro W hW
    exact acc_look (S := ⟨f, fun _ _ => none, fun _ => false⟩) (hm.of_block hW) k
  obtain ⟨x, hx⟩ : ∃ x, x = (f k).getD Ac.zero := ⟨_, rfl⟩
  obtain ⟨ok, hok⟩ : ∃ ok, ok = (f k).isSome := ⟨_, rfl⟩
  rw [← hx, ← hok] at hl
  rw [← hx, ← hok]
  clear hx hok
  have hl1 := fun o o' o2 => hl (((w.alloc o).alloc o').alloc o2) (by rw [alloc_block (by simp only [World.size_alloc]; omega), alloc_block (by simp only [World.size_alloc]; omega), alloc_block hlt])
  have HM := Lib.hid hm
  clear hl hm
  have hmw := fun o1 o2 o3 o4 o5 => HM.out.of_block (w' := ((((w.alloc o1).alloc o2).alloc o3).alloc o4).alloc o5) (by rw [alloc_block (by simp only [World.size_alloc]; omega), alloc_block (by simp only [World.size_alloc]; omega), alloc_block (by simp only [World.size_alloc]; omega), alloc_block (by simp only [World.size_alloc]; omega), alloc_block hlt])
  have Hmw := Lib.hid hmw; clear hmw
  go_enter Tryz.func47, Tryz.ntmps47
  go_wp2_with (at_mapUpdate; refine wpList_store (K := KS) _ rfl _ _ _ 93 rfl 9 33 Tryz.underlying93 koS b _ rfl (Hmw.out _ _ _ _ _) _ _ rfl rfl (ks k) ?_; intro w3 hm3 hg3 hs3; have Hm3 := Lib.hid hm3; have Hg3 := Lib.hid hg3; have Hs3 := Lib.hid hs3; clear hm3 hg3 hs3)
  go_ret
  have hsz := Hs3.out
  simp only [World.size_alloc] at hsz
  have hb : ∀ j, j < 5 → w3.heap[w.heap.size + j]? = _ := fun j hj => Hg3.out.block (w.heap.size + j) (by simp only [World.size_alloc]; omega) (by simp; omega)
  refine ⟨rfl, by rw [← accF_upd]; exact Hm3.out, ⟨?_, ?_, ?_, ?_⟩, ?_, by omega⟩
  · exact (hb 0 (by omega)).trans (by (rw [at_al, if_neg (by simp only [World.size_alloc]; omega), at_al, if_neg (by simp only [World.size_alloc]; omega), at_al, if_neg (by simp only [World.size_alloc]; omega), at_al, if_neg (by simp only [World.size_alloc]; omega), at_al, if_pos (by omega)]))
  · exact (hb 1 (by omega)).trans (by (rw [at_al, if_neg (by simp only [World.size_alloc]; omega), at_al, if_neg (by simp only [World.size_alloc]; omega), at_al, if_neg (by simp only [World.size_alloc]; omega), at_al, if_pos (by simp only [World.size_alloc])]))
  · exact (hb 3 (by omega)).trans (by (rw [at_al, if_neg (by simp only [World.size_alloc]; omega), at_al, if_pos (by simp only [World.size_alloc])]))
  · exact (hb 4 (by omega)).trans (by (rw [at_al, if_pos (by simp only [World.size_alloc])]))
  · exact ((((((Only.refl (· = b) w).alloc _).alloc _).alloc _).alloc _).alloc _).trans (Only.of_grown Hg3.out) (fun _ _ g => g)
set_option maxHeartbeats 2000000 in
set_option maxRecDepth 100000 in
theorem setBack_any (n b : Nat) (k : ByteArray) (old : Ac) (ok : Bool) (g : ByteArray → Option Ac) (w : World) (hb : SetBox w n b k old ok) (hm : MapIs KS w b (accF g)) :
    Calls Tryz.prog 91 #[.pointer (some ⟨n + 4, 0, none⟩), .pointer (some ⟨n + 3, 0, none⟩), .pointer (some ⟨n, 0, none⟩), .pointer (some ⟨n + 1, 0, none⟩)] w fun e w' =>
      e = .returned (.tuple #[]) ∧ MapIs KS w' b (accF (turn g k (if ok then some old else none))) ∧ Only (· = b) w w' := by
  have c0 : w.cell? ⟨n, 0, none⟩ = some (.map (some b)) := cell_of hb.m 0
  have c1 : w.cell? ⟨n + 1, 0, none⟩ = some (.string k) := cell_of hb.k 0
  have c4 : w.cell? ⟨n + 4, 0, none⟩ = some (.bool ok) := cell_of hb.y 0
  have d0 : w.cell? ⟨n + 3, 0, none⟩ = some (.int .u64 (old.nonce : Int)) := cell_of hb.o 0
  have d1 : w.cell? ⟨n + 3, 1, none⟩ = some (.int .u64 (old.bal.a : Int)) := cell_of hb.o 1
  have d2 : w.cell? ⟨n + 3, 2, none⟩ = some (.int .u64 (old.bal.b : Int)) := cell_of hb.o 2
  have d3 : w.cell? ⟨n + 3, 3, none⟩ = some (.int .u64 (old.bal.c : Int)) := cell_of hb.o 3
  have d4 : w.cell? ⟨n + 3, 4, none⟩ = some (.int .u64 (old.bal.d : Int)) := cell_of hb.o 4
  have d5 : w.cell? ⟨n + 3, 5, none⟩ = some (.string old.code) := cell_of hb.o 5
  have HM := Lib.hid hm; clear hm hb
  cases ok
  · go_enter Tryz.func91, Tryz.ntmps91
    go_wp2_with (at_delete; refine wpList_strike (K := KS) _ rfl _ _ 93 _ rfl rfl 9 33 Tryz.underlying93 koS b _ rfl HM.out _ rfl (ks k) ?_; intro w3 hm3 hg3 hs3; have Hm3 := Lib.hid hm3; have Hg3 := Lib.hid hg3; have Hs3 := Lib.hid hs3; clear hm3 hg3 hs3)
    go_end0
    exact ⟨rfl, by rw [← accF_del]; exact Hm3.out, Only.of_grown Hg3.out⟩
  · go_enter Tryz.func91, Tryz.ntmps91
    go_wp2_with (at_mapUpdate; refine wpList_store (K := KS) _ rfl _ _ _ 93 rfl 9 33 Tryz.underlying93 koS b _ rfl HM.out _ _ rfl rfl (ks k) ?_; intro w3 hm3 hg3 hs3; have Hm3 := Lib.hid hm3; have Hg3 := Lib.hid hg3; have Hs3 := Lib.hid hs3; clear hm3 hg3 hs3)
    go_end0
    exact ⟨rfl, by rw [← accF_upd]; exact Hm3.out, Only.of_grown Hg3.out⟩
theorem vblock_own {w : World} {base : Nat} {e : TypeId} {size n : Nat} {u : Value} {xs : List Value} (h : w.ownsRow base e size u n xs) : vblock u = u.ownBlock := by
  rcases h.2 with ⟨rfl, _⟩ | ⟨g, cap, cur, rfl, _⟩ <;> rfl
theorem foot_iff {w : World} {p ba bs bz : Nat} {c u : Value} (h : w.heap[p]? = some (.cells #[.map (some ba), .map (some bs), .map (some bz), c, u] 101 (0, 0))) (hc : vblock c = none) (hu : vblock u = u.ownBlock) (k : Nat) :
    Foot w p k ↔ (k = p ∨ k = ba ∨ k = bs ∨ k = bz ∨ u.ownBlock = some k) := by
  constructor
  · rintro (rfl | ⟨cs, t, fr, h1, v, hv, hk⟩)
    · exact .inl rfl
    · rw [h] at h1
      simp only [Option.some.injEq, Obj.cells.injEq] at h1
      obtain ⟨rfl, _⟩ := h1
      simp at hv
      rcases hv with rfl | rfl | rfl | rfl | rfl
      · simp [vblock] at hk; exact .inr (.inl hk.symm)
      · simp [vblock] at hk; exact .inr (.inr (.inl hk.symm))
      · simp [vblock] at hk; exact .inr (.inr (.inr (.inl hk.symm)))
      · rw [hc] at hk; cases hk
      · rw [hu] at hk; exact .inr (.inr (.inr (.inr hk)))
  · rintro (rfl | rfl | rfl | rfl | hk)
    · exact .inl rfl
    · exact .inr ⟨_, _, _, h, .map (some k), by simp, rfl⟩
    · exact .inr ⟨_, _, _, h, .map (some k), by simp, rfl⟩
    · exact .inr ⟨_, _, _, h, .map (some k), by simp, rfl⟩
    · exact .inr ⟨_, _, _, h, u, by simp, by rw [hu]; exact hk⟩
theorem WMid.foot_lt {w : World} {p : Nat} {c : Value} {T S : St} {H : List St} (h : WMid w p c T H S) : ∀ k, Foot w p k → k < w.heap.size := by
  obtain ⟨ba, bs, bz, u, fs, h1, h2, h3, h4, h5, h6, h7, h8, h9, h10, h11, h12⟩ := h.ex
  intro k hk
  rcases (foot_iff h1 h12 (vblock_own h3) k).1 hk with rfl | rfl | rfl | rfl | hk
  · exact h.lt
  · exact h2.acc.lt
  · exact h2.slo.lt
  · exact h2.wip.lt
  · exact (h3.lt k hk).2
/-- A world's memory, all of it named. -/
structure WAt (w : World) (p : Nat) (c : Value) (T : St) (H : List St) (S : St) (ba bs bz : Nat) (u : Value) (fs : List Value) : Prop where
  blk : w.heap[p]? = some (.cells #[.map (some ba), .map (some bs), .map (some bz), c, u] 101 (0, 0))
  maps : Maps3 w ba bs bz T
  row : w.ownsRow 0 1 1 u H.length fs
  undo : ∀ i v A R, fs[i]? = some v → (H ++ [S])[i + 1]? = some A → H[i]? = some R → UndoIs w p ba bs bz v A R
  na : p ≠ ba
  ns : p ≠ bs
  nz : p ≠ bz
  up : u.ownBlock ≠ some p
  ua : u.ownBlock ≠ some ba
  us : u.ownBlock ≠ some bs
  uz : u.ownBlock ≠ some bz
  vc : vblock c = none
theorem WMid.at_ {w : World} {p : Nat} {c : Value} {T S : St} {H : List St} (h : WMid w p c T H S) : ∃ ba bs bz u fs, WAt w p c T H S ba bs bz u fs := by
  obtain ⟨ba, bs, bz, u, fs, h1, h2, h3, h4, h5, h6, h7, h8, h9, h10, h11, h12⟩ := h.ex
  exact ⟨ba, bs, bz, u, fs, h1, h2, h3, h4, h5, h6, h7, h8, h9, h10, h11, h12⟩
/-- One entry more, in a world that has been changed. -/
theorem done_shut {w w2 : World} {p ba bs bz id : Nat} {c u v' : Value} {fs : List Value} {caps : Array Value} {H : List St} {T S : St} (hp : p < w.heap.size)
    (h1 : w.heap[p]? = some (.cells #[.map (some ba), .map (some bs), .map (some bz), c, u] 101 (0, 0))) (h2 : Maps3 w ba bs bz T)
    (h3 : w.ownsRow 0 1 1 u H.length fs) (h4 : ∀ i v A R, fs[i]? = some v → (H ++ [S])[i + 1]? = some A → H[i]? = some R → UndoIs w p ba bs bz v A R)
    (h5 : p ≠ ba) (h6 : p ≠ bs) (h7 : p ≠ bz) (h8 : u.ownBlock ≠ some p) (h9 : u.ownBlock ≠ some ba) (h10 : u.ownBlock ≠ some bs) (h11 : u.ownBlock ≠ some bz) (h12 : vblock c = none)
    (hu : UndoIs w p ba bs bz (.func (.func id) #[] caps) T S) (o : Obj) (hg : (w.alloc o).grownBy w2 u.ownBlock) (ho : w2.ownsRow 0 1 1 v' (H.length + 1) (fs ++ [.func (.func id) #[] caps]))
    (hob : v'.ownBlock = u.ownBlock ∨ v'.ownBlock = some (w.heap.size + 1)) :
    WAt (w2.setCell ⟨p, 4, none⟩ v') p c T (H ++ [S]) T ba bs bz v' (fs ++ [.func (.func id) #[] caps]) ∧ Moved p w (w2.setCell ⟨p, 4, none⟩ v') := by
  have hbl : ∀ k, k < w.heap.size → some k ≠ u.ownBlock → k ≠ p → (w2.setCell ⟨p, 4, none⟩ v').heap[k]? = w.heap[k]? := by
    intro k hk hne hkp
    rw [setCell_other (Ne.symm hkp), hg.block k (by simp only [World.size_alloc]; omega) hne, alloc_block hk]
  have hpb : w2.heap[p]? = some (.cells #[.map (some ba), .map (some bs), .map (some bz), c, u] 101 (0, 0)) := by
    rw [hg.block p (by simp only [World.size_alloc]; omega) (Ne.symm h8), alloc_block hp]; exact h1
  have hp3 : (w2.setCell ⟨p, 4, none⟩ v').heap[p]? = some (.cells #[.map (some ba), .map (some bs), .map (some bz), c, v'] 101 (0, 0)) := setCell_block hpb 4 v'
  have hsz : w.heap.size ≤ (w2.setCell ⟨p, 4, none⟩ v').heap.size := by
    have := hg.size
    simp only [World.size_alloc] at this
    simp [World.setCell]; omega
  have hvb := vblock_own ho
  have hmv : Moved p w (w2.setCell ⟨p, 4, none⟩ v') := by
    refine ⟨⟨hg.os, hg.tape, hg.output, hsz, fun k hk hn => hbl k hk (fun e => hn ((foot_iff h1 h12 (vblock_own h3) k).2 (.inr (.inr (.inr (.inr e.symm)))))) (fun e => hn (.inl e))⟩, fun k hk hf => ?_⟩
    rcases (foot_iff hp3 h12 hvb k).1 hf with rfl | rfl | rfl | rfl | hk'
    · exact .inl rfl
    · exact (foot_iff h1 h12 (vblock_own h3) _).2 (.inr (.inl rfl))
    · exact (foot_iff h1 h12 (vblock_own h3) _).2 (.inr (.inr (.inl rfl)))
    · exact (foot_iff h1 h12 (vblock_own h3) _).2 (.inr (.inr (.inr (.inl rfl))))
    · rcases hob with e | e
      · rw [e] at hk'; exact (foot_iff h1 h12 (vblock_own h3) _).2 (.inr (.inr (.inr (.inr hk'))))
      · rw [e] at hk'; simp at hk'; omega
  refine ⟨⟨hp3, h2.of_blocks (hbl _ h2.acc.lt (Ne.symm h9) (Ne.symm h5)) (hbl _ h2.slo.lt (Ne.symm h10) (Ne.symm h6)) (hbl _ h2.wip.lt (Ne.symm h11) (Ne.symm h7)), ?_, ?_, h5, h6, h7, ?_, ?_, ?_, ?_, h12⟩, hmv⟩
  · rw [show (H ++ [S]).length = H.length + 1 from by simp]
    refine ownsRow_of_block ho fun k hk => setCell_other (fun e => ?_) 4 v'
    subst e
    rcases hob with e | e
    · rw [e] at hk; exact h8 hk
    · rw [e] at hk; simp at hk; omega
  · have hfl : fs.length = H.length := by have := h3.1; omega
    intro i v A R g1 g2 g3
    rcases Nat.lt_or_ge i H.length with hi | hi
    · rw [List.getElem?_append_left (by omega)] at g1
      rw [List.getElem?_append_left (by simp; omega)] at g2
      rw [List.getElem?_append_left hi] at g3
      exact (h4 i v A R g1 g2 g3).keep hmv
    · have : i = H.length := by
        have := (List.getElem?_eq_some_iff.1 g3).1
        simp at this; omega
      subst this
      rw [List.getElem?_append_right (by omega), hfl] at g1
      rw [List.getElem?_append_right (by simp)] at g2
      rw [List.getElem?_append_right (by omega)] at g3
      simp at g1 g2 g3
      subst g1 g2 g3
      exact hu.keep hmv
  · rcases hob with e | e <;> rw [e]
    · exact h8
    · simp; omega
  · rcases hob with e | e <;> rw [e]
    · exact h9
    · have := h2.acc.lt; simp; omega
  · rcases hob with e | e <;> rw [e]
    · exact h10
    · have := h2.slo.lt; simp; omega
  · rcases hob with e | e <;> rw [e]
    · exact h11
    · have := h2.wip.lt; simp; omega
theorem one_cell_fn (id : FuncId) (caps : Array Value) : ∀ u ∈ [Value.func (.func id) #[] caps], u.oneCell' = true := by
  intro u hu; simp at hu; subst hu; rfl
theorem cell_one_fn (w : World) (v : Value) (t : TypeId) : ∀ j u, [v][j]? = some u → (w.alloc (.cells #[v] t)).cell? ((⟨w.heap.size, 0, none⟩ : Addr).add j) = some u := by
  intro j u hj
  match j, hj with
  | 0, hj => simp at hj; subst hj; exact cell_of (newest w _) 0
section
variable {w w' : World} {p : Nat} {c : Value} {T S : St} {H : List St} {ba bs bz : Nat} {u : Value} {fs : List Value}
theorem WAt.mid (h : WAt w p c T H S ba bs bz u fs) : WMid w p c T H S := ⟨ba, bs, bz, u, fs, h.blk, h.maps, h.row, h.undo, h.na, h.ns, h.nz, h.up, h.ua, h.us, h.uz, h.vc⟩
theorem WAt.foot (h : WAt w p c T H S ba bs bz u fs) (k : Nat) : Foot w p k ↔ (k = p ∨ k = ba ∨ k = bs ∨ k = bz ∨ u.ownBlock = some k) := foot_iff h.blk h.vc (vblock_own h.row) k
theorem WAt.foot_lt (h : WAt w p c T H S ba bs bz u fs) : ∀ k, Foot w p k → k < w.heap.size := h.mid.foot_lt
theorem WAt.lt (h : WAt w p c T H S ba bs bz u fs) : p < w.heap.size := h.mid.lt
theorem WAt.below (h : WAt w p c T H S ba bs bz u fs) (hb : Below w.heap.size w w') : WAt w' p c T H S ba bs bz u fs :=
  ⟨by rw [hb.block p h.lt]; exact h.blk, h.maps.of_blocks (hb.block _ h.maps.acc.lt) (hb.block _ h.maps.slo.lt) (hb.block _ h.maps.wip.lt), ownsRow_of_block h.row fun k hk => hb.block k (h.row.lt k hk).2,
    fun i v A R g1 g2 g3 => (h.undo i v A R g1 g2 g3).keep (Moved.of_below hb h.lt), h.na, h.ns, h.nz, h.up, h.ua, h.us, h.uz, h.vc⟩
/-- Turned in its maps alone. -/
theorem WAt.turned (h : WAt w p c T H S ba bs bz u fs) {T' : St} (hm : Maps3 w' ba bs bz T') (ho : Only (three ba bs bz) w w') : WAt w' p c T' H S ba bs bz u fs ∧ Moved p w w' := by
  have hp : w'.heap[p]? = w.heap[p]? := ho.block p h.lt (by rintro (e | e | e) <;> first | exact h.na e | exact h.ns e | exact h.nz e)
  have hmv : Moved p w w' := ⟨ho.mono (fun k _ hk => (h.foot k).2 (by rcases hk with e | e | e <;> first | exact .inr (.inl e) | exact .inr (.inr (.inl e)) | exact .inr (.inr (.inr (.inl e))))), fun k _ f => f.of_block hp⟩
  refine ⟨⟨by rw [hp]; exact h.blk, hm, ownsRow_of_block h.row fun k hk => ho.block k (h.row.lt k hk).2 ?_, fun i v A R g1 g2 g3 => (h.undo i v A R g1 g2 g3).keep hmv, h.na, h.ns, h.nz, h.up, h.ua, h.us, h.uz, h.vc⟩, hmv⟩
  rintro (e | e | e)
  · exact h.ua (by rw [hk, e])
  · exact h.us (by rw [hk, e])
  · exact h.uz (by rw [hk, e])
theorem WAt.set_acc (h : WAt w p c T H S ba bs bz u fs) {f : ByteArray → Option Ac} (hm : MapIs KS w' ba (accF f)) (ho : Only (· = ba) w w') :
    WAt w' p c { T with acc := f } H S ba bs bz u fs ∧ Moved p w w' :=
  h.turned ⟨hm, h.maps.slo.of_block (ho.block _ h.maps.slo.lt (Ne.symm h.maps.ne1)), h.maps.wip.of_block (ho.block _ h.maps.wip.lt (Ne.symm h.maps.ne2)), h.maps.ne1, h.maps.ne2, h.maps.ne3⟩ (ho.mono fun _ _ e => .inl e)
/-- The function that 'set' makes takes its change back. -/
theorem WAt.undo_acc (h : WAt w p c S H S ba bs bz u fs) {k : ByteArray} {v : Ac} (hs : w'.heap[p]? = w.heap[p]?) (hb : SetBox w' w.heap.size ba k ((S.acc k).getD Ac.zero) (S.acc k).isSome) :
    UndoIs w' p ba bs bz (setFn w.heap.size) { S with acc := turn S.acc k (some v) } S := by
  refine ⟨_, _, fun b => b = w.heap.size ∨ b = w.heap.size + 1 ∨ b = w.heap.size + 3 ∨ b = w.heap.size + 4, rfl, enters_of Tryz.func91 (by kernel_rfl) (by kernel_rfl), fun b hF => ?_, fun w2 hw2 _ hm3 => ?_⟩
  · have hlt : w.heap.size + 4 < w'.heap.size := (Array.getElem?_eq_some_iff.1 hb.y).1
    refine ⟨by rcases hF with e | e | e | e <;> omega, fun f => ?_⟩
    have := h.foot_lt b (f.of_block hs)
    rcases hF with e | e | e | e <;> omega
  · have hb2 : SetBox w2 w.heap.size ba k ((S.acc k).getD Ac.zero) (S.acc k).isSome :=
      ⟨by rw [hw2 _ (.inl rfl)]; exact hb.m, by rw [hw2 _ (.inr (.inl rfl))]; exact hb.k, by rw [hw2 _ (.inr (.inr (.inl rfl)))]; exact hb.o, by rw [hw2 _ (.inr (.inr (.inr rfl)))]; exact hb.y⟩
    refine (setBack_any _ ba k _ _ _ w2 hb2 hm3.acc).mono ?_
    rintro e w3 ⟨rfl, h1, h2⟩
    have e1 : (if (S.acc k).isSome = true then some ((S.acc k).getD Ac.zero) else none) = S.acc k := by cases S.acc k <;> rfl
    rw [e1, turn_back] at h1
    exact ⟨rfl, ⟨h1, hm3.slo.of_block (h2.block _ hm3.slo.lt (Ne.symm hm3.ne1)), hm3.wip.of_block (h2.block _ hm3.wip.lt (Ne.symm hm3.ne2)), hm3.ne1, hm3.ne2, hm3.ne3⟩, h2.mono fun _ _ e => .inl e⟩
end
set_option maxHeartbeats 2000000 in
set_option maxRecDepth 100000 in
theorem done_any (p : Nat) (c : Value) (T S : St) (H : List St) (ba bs bz : Nat) (u : Value) (fs : List Value) (fv : Value) (w : World) (hw : WAt w p c T H S ba bs bz u fs) (hH : H.length < 1000000) (hu' : UndoIs w p ba bs bz fv T S) :
    Calls Tryz.prog 46 #[.pointer (some ⟨p, 0, none⟩), fv] w fun e w' => e = .returned (.tuple #[]) ∧ (∃ v', WAt w' p c T (H ++ [S]) T ba bs bz v' (fs ++ [fv])) ∧ Moved p w w' := by
  have hp := hw.lt
  obtain ⟨h1, h2, h3, h4, h5, h6, h7, h8, h9, h10, h11, h12⟩ := hw
  obtain ⟨id, caps, F, rfl, hF⟩ := id hu'
  clear hF
  have c4 : w.cell? ⟨p, 4, none⟩ = some u := cell_of h1 4
  have f4 : w.frozen? ⟨p, 4, none⟩ = false := free_of h1 4
  obtain ⟨i0, hi0, hz0, hz1, hz2⟩ := info_parts (show (Tryz.prog.info? 1).map (fun i => (i.zero, i.size, i.bytes)) = some (some .nilFunc, 1, 8) by kernel_rfl)
  have h3' := h3.alloc (.cells #[.func (.func id) #[] caps] 1)
  have K := Lib.hid (And.intro h1 (And.intro h2 (And.intro h3 (And.intro h4 (And.intro h5 (And.intro h6 (And.intro h7 (And.intro h8 (And.intro h9 (And.intro h10 (And.intro h11 (And.intro h12 hu'))))))))))))
  have h8' := Lib.hid h8
  clear h1 h2 h3 h4 h5 h6 h7 h8 h9 h10 h11 h12 hu'
  have H3 := Lib.hid h3'; clear h3'
  go_enter Tryz.func46, Tryz.ntmps46
  go_wp2_with (at_builtin; refine wpList_append_own_at _ rfl _ _ 99 rfl 0 1 i0 .nilFunc 1 8 Tryz.underlying99 hi0 hz0 hz1 hz2 rfl (by decide) u H.length fs rfl H3.out ⟨w.heap.size, 0, none⟩ 1 1 [.func (.func id) #[] caps] rfl rfl (cell_one_fn w _ _) (one_cell_fn _ _) (by unfold Go.maxLen; omega) (by omega) (by omega) ?_)
  intro v' w2 hown hgrow _ hat
  have c4' : w2.cell? ⟨p, 4, none⟩ = some u := by
    rw [World.cell?_of_block (hgrow.block p (by simp only [World.size_alloc]; omega) (Ne.symm h8'.out)), World.cell?_of_block (w := w) (alloc_block hp _)]; exact c4
  have f4' : w2.frozen? ⟨p, 4, none⟩ = false := by
    rw [World.frozen?_of_block (hgrow.block p (by simp only [World.size_alloc]; omega) (Ne.symm h8'.out)), World.frozen?_of_block (w := w) (alloc_block hp _)]; exact f4
  obtain ⟨g, cap, hv⟩ : ∃ g cap, v' = .slice (some ⟨g, 0, none⟩) (H.length + 1) cap := by
    rcases hown.2 with ⟨_, h0⟩ | ⟨g, cap, cur, hv, _⟩
    · omega
    · exact ⟨g, cap, hv⟩
  have HO := Lib.hid hown; have HG := Lib.hid hgrow; have HA := Lib.hid hat
  clear hown hgrow hat
  subst hv
  go_wp2_with fail
  go_end0
  obtain ⟨h1, h2, h3, h4, h5, h6, h7, h8, h9, h10, h11, h12, hu'⟩ := K.out
  have hA := HA.out
  have hd := done_shut hp h1 h2 h3 h4 h5 h6 h7 h8 h9 h10 h11 h12 hu' _ HG.out HO.out hA
  exact ⟨rfl, ⟨_, hd.1⟩, hd.2⟩
end Go.Proofs.YtbjkdnbmgoibiaaGreatDoor
