/-
  op.All: the map that it makes holds the table.
-/
import Derived.Test.YtnachjhhbhhpoaaDoorOpD
import Derived.Test.YtnachjhhbhhpoaaDoorMap
import Derived.Test.YtnachjhhbhhpoaaDoorShelf
import Derived.StillTailTactics
import Derived.IntWalk
namespace Go.Proofs.YtnachjhhbhhpoaaDoor
open Go.RowKit
/-- A row's Info, as a value. -/
def infv (x : Opx.Inf) : Value := .agg #[.string ⟨x.name.toArray⟩, .int .u64 (x.gas : Int), .int .i64 (x.inn : Int), .int .i64 (x.out : Int)]
/-- The rows as a map. -/
noncomputable def tabF (l : List (Nat × Opx.Inf)) : Value → Option Value := l.foldl (fun f x => upd f (.int .u8 (x.1 : Int)) (infv x.2)) (fun _ => none)
theorem tabF_take {n : Nat} {x : Nat × Opx.Inf} (h : Opx.T[n]? = some x) : tabF (Opx.T.take (n + 1)) = upd (tabF (Opx.T.take n)) (.int .u8 (x.1 : Int)) (infv x.2) := by
  obtain ⟨hn, rfl⟩ := List.getElem?_eq_some_iff.1 h
  rw [List.take_succ_eq_append_getElem hn]
  unfold tabF
  rw [List.foldl_append]; rfl
/-- The keys: bytes. -/
def KB : Value → Prop := Go.MapKept.IsKey (.int .u8)
theorem kb (n : Int) : KB (.int .u8 n) := by unfold KB; simp [Go.MapKept.IsKey]
theorem koB : KeyOk Tryd.prog 5 KB := keyOk_plain Tryd.underlying5 (sameBits_int .u8)

theorem grown_trans {a b c : World} {row : Option Nat} (h : a.grownBy b row) (k : b.grownBy c row) : a.grownBy c row :=
  ⟨k.os.trans h.os, k.tape.trans h.tape, k.output.trans h.output, Nat.le_trans h.size k.size, fun i hi hn => (k.block i (Nat.lt_of_lt_of_le hi h.size) hn).trans (h.block i hi hn)⟩
theorem _root_.Go.World.grownBy.of_drew {a b : World} {row : Option Nat} (h : a.drew.grownBy b row) : a.grownBy b row := ⟨h.os, h.tape, h.output, h.size, h.block⟩
theorem dec_short : ∀ n, n < 40 → (Lib.decDigits n).length < 5 := by decide +kernel
theorem map_row {w : World} {b : Nat} {f : Value → Option Value} {c : Nat} {k : Int} {p d : List UInt8} {s : ByteArray} {g i o : Nat} {x y z : Int} (h : MapIs KB w b (upd f (.int .u8 k) (.agg #[.string s, .int .u64 x, .int .i64 y, .int .i64 z])))
    (hk : k = (c : Int)) (hs : s = ⟨(p ++ d).toArray⟩) (hx : x = (g : Int)) (hy : y = (i : Int)) (hz : z = (o : Int)) : MapIs KB w b (upd f (.int .u8 (c : Int)) (infv ⟨p ++ d, g, i, o⟩)) := by
  subst hk hs hx hy hz; exact h
theorem str_app (p d : List UInt8) : ({ data := p.toArray } ++ { data := d.toArray } : ByteArray) = ⟨(p ++ d).toArray⟩ := by
  apply ByteArray.ext; simp
theorem tok_cell (k j n b : Nat) (w : World) (hn : n = (Opx.toks k).length) (hj : j < n) (h : w.heap[b]? = some (.cells (((Opx.toks k).map fun l => Value.string (str l)).toArray) 9 (0, 0))) :
    w.cell? ⟨b, j, none⟩ = some (.string (str (Opx.tok k j))) := by
  have hj' : j < (Opx.toks k).length := by omega
  simp only [World.cell?, h, Opx.tok]
  simp [hj']
/-- '[]byte(s)' turns no block that was. -/
theorem grown_bytes (w : World) (e : TypeId) (s : ByteArray) (row : Option Nat) : w.grownBy (Lib.bytesWorld w e s) row :=
  ⟨rfl, rfl, rfl, by rw [Lib.bytesWorld_size]; omega, fun k hk _ => Lib.bytesWorld_at_old w e s k hk⟩
/-- strconv.Itoa of a small number. -/
theorem itoa_any (n : Nat) (w : World) (h : n < 100) : Calls Tryd.prog 29 #[.int .i64 (n : Int)] w fun e w' => e = .returned (.string ⟨(Lib.decDigits n).toArray⟩) ∧ w' = w := Tryd.strconv_Itoa_small n h w
theorem group_cells (k : Nat) (hk : k < 24) (w : World) (b : Nat) (hg : w.heap[b]? = some (.cells gAll 60 (0, 0))) :
    w.cell? ⟨b, k * 4, none⟩ = some (.int .u64 ((Opx.grp k).gas : Int)) ∧ w.cell? ⟨b, k * 4 + 1, none⟩ = some (.int .i64 ((Opx.grp k).inn : Int)) ∧
    w.cell? ⟨b, k * 4 + 2, none⟩ = some (.int .i64 ((Opx.grp k).out : Int)) ∧ w.cell? ⟨b, k * 4 + 3, none⟩ = some (.string ⟨(Opx.grp k).name.toArray⟩) := by
  have hflat : ∀ (l : List Opx.Inf) (k : Nat) (j : Nat), k < l.length → j < 4 → (l.flatMap gcells)[k * 4 + j]? = (gcells (l[k]?.getD ⟨[], 0, 0, 0⟩))[j]? := by
    intro l
    induction l with
    | nil => intro k j hk; simp at hk
    | cons x l ih =>
      intro k j hk hj
      simp only [List.flatMap_cons]
      cases k with
      | zero => rw [List.getElem?_append_left (by simp [gcells]; omega)]; simp
      | succ k =>
        rw [List.getElem?_append_right (by simp [gcells]; omega)]
        have : (k + 1) * 4 + j - (gcells x).length = k * 4 + j := by simp [gcells]; omega
        rw [this, ih k j (by simpa using hk) hj]; simp
  have hc : ∀ j, j < 4 → w.cell? ⟨b, k * 4 + j, none⟩ = (gcells (Opx.grp k))[j]? := by
    intro j hj
    have := hflat Opx.G k j (by exact hk) hj
    simp only [World.cell?, hg]
    simp only [gAll, List.getElem?_toArray, Option.isSome_none, Bool.false_eq_true, if_false]
    exact this
  exact ⟨(show w.cell? ⟨b, k * 4 + 0, none⟩ = _ from hc 0 (by omega)), hc 1 (by omega), hc 2 (by omega), hc 3 (by omega)⟩

set_option maxHeartbeats 4000000 in
set_option maxRecDepth 100000 in
theorem all_any (m : Int) (w : World) (hm : w.cell? ⟨2, 0, none⟩ = some (.int .i64 m)) (hms : 2 < w.heap.size) :
    Calls Tryd.prog 19 #[] w fun e w' => e = .returned (.map (some w.heap.size)) ∧ MapIs KB w' w.heap.size (tabF Opx.T) ∧ Below w.heap.size w w' := by
  have hmm := @run_makeMap Tryd.prog
  have h24 : (gAll.size : Nat) = 96 := by kernel_rfl
  go_enter Tryd.func19, Tryd.ntmps19
  go_wp2_with (go_at_call 26; refine (alike_any _).mono ?_; rintro e w' ⟨rfl, rfl⟩)
  go_loopw [15] (fun vi wr => ∃ k : Nat, vi = .int .i64 k ∧ k ≤ 24 ∧ MapIs KB wr w.heap.size (tabF (Opx.T.take (Opx.base k))) ∧ wr.heap[w.heap.size + 1]? = some (.cells gAll 60 (0, 0)) ∧ Below w.heap.size w wr)
    (fun vi _ => 24 - (intOf vi).toNat)
  case atStart => exact ⟨0, rfl, by omega, (MapIs.made w).of_block ((Go.MapKept.heap_alloc _ _).2 _ (by simp)), by rw [← (show (w.alloc (.map #[] 0)).heap.size = w.heap.size + 1 from by simp)]; exact (Go.MapKept.heap_alloc _ _).1, ((Below.refl _ _).alloc (Nat.le_refl _) _).alloc (by simp) _⟩
  case round =>
    obtain ⟨wo, rfl⟩ : ∃ wo : World, wo = wr := ⟨_, rfl⟩
    obtain ⟨k, rfl, hk, hmap, hg, hb⟩ := hrel
    by_cases hlt : k < 24
    · obtain ⟨h0, h1, h2, h3⟩ := group_cells k hlt _ _ hg
      have hbs := Opx.base_succ k hlt
      have hgn : (Opx.grp k).name.length < 1000 := hbs.2.2.2.2
      have hszw := hb.size
      have hBw : w.heap.size + 1 < wo.heap.size := (Array.getElem?_eq_some_iff.1 hg).1
      have hmw : ∀ o, (wo.alloc o).cell? ⟨2, 0, none⟩ = some (.int .i64 m) := by
        intro o
        rw [World.cell?_alloc_past o 2 0 (by omega), hb.cell (p := ⟨2, 0, none⟩) hms]
        exact hm
      have hgn' : (⟨(Opx.grp k).name.toArray⟩ : ByteArray).size < 4294967281 := by show (Opx.grp k).name.length < _; omega
      have hst := Opx.split_toks k hlt
      change (Lib.splitB _ 0 (Lib.countB ⟨(Opx.grp k).name.toArray⟩ _) ⟨(Opx.grp k).name.toArray⟩).map _ = _ at hst
      have hcl := Opx.count_toks k hlt
      change Lib.countB ⟨(Opx.grp k).name.toArray⟩ _ + 1 = _ at hcl
      clear hgn
      have HX := Lib.hid (And.intro hbs (And.intro hst hcl)); clear hbs hst
      have Hcl := Lib.hid hcl; clear hcl
      go_wp2_with fail
      refine (Tryd.strings_Split _ _ m _ hgn' (hmw _) (by decide)).mono ?_
      rintro e w1 ⟨rfl, hw1⟩
      obtain ⟨n, hn⟩ : ∃ n, n = (Opx.toks k).length := ⟨_, rfl⟩
      have hn60 : n < 60 := by rw [hn]; exact HX.out.1.2.2.2.1
      rw [Hcl.out, ← hn]
      have Hn := Lib.hid hn; clear hn
      have hs1 : w1.heap.size = wo.heap.size + 2 := by rw [hw1]; simp
      have hmap1 : MapIs KB w1 w.heap.size (tabF (Opx.T.take (Opx.base k))) := by
        rw [hw1]; exact hmap.below (((Below.refl wo.heap.size wo).alloc (Nat.le_refl _) _).alloc (by simp) _) (by omega)
      have hb1 : Below w.heap.size w w1 := by rw [hw1]; exact (hb.alloc (by omega) _).alloc (by simp; omega) _
      have hG1 : w1.heap[w.heap.size + 1]? = some (.cells gAll 60 (0, 0)) := by
        rw [hw1]; rw [(((Below.refl wo.heap.size wo).alloc (Nat.le_refl _) _).alloc (by simp) _).block _ (by omega)]; exact hg
      have hg1 : w1.heap[wo.heap.size]? = some (.cells (gcells (Opx.grp k)).toArray 60 (0, 0)) := by
        rw [hw1]
        rw [((Below.refl _ (wo.alloc _)).alloc (Nat.le_refl _) _).block _ (by simp)]
        exact (Go.MapKept.heap_alloc wo _).1
      have ht1 : w1.heap[wo.heap.size + 1]? = some (.cells (((Opx.toks k).map fun l => Value.string (str l)).toArray) 9 (0, 0)) := by
        rw [hw1]
        have e1 := (Go.MapKept.heap_alloc (wo.alloc (.cells #[.int .u64 ((Opx.grp k).gas : Int), .int .i64 ((Opx.grp k).inn : Int), .int .i64 ((Opx.grp k).out : Int), .string ⟨(Opx.grp k).name.toArray⟩] 60))
          (.cells ((Lib.splitB ⟨#[32]⟩ 0 (Lib.countB ⟨(Opx.grp k).name.toArray⟩ ⟨#[32]⟩) ⟨(Opx.grp k).name.toArray⟩).map Value.string).toArray 9)).1
        rw [show (wo.alloc (.cells #[.int .u64 ((Opx.grp k).gas : Int), .int .i64 ((Opx.grp k).inn : Int), .int .i64 ((Opx.grp k).out : Int), .string ⟨(Opx.grp k).name.toArray⟩] 60)).heap.size = wo.heap.size + 1 from by simp] at e1
        rw [e1, ← HX.out.2.1, List.map_map]
        congr 4
      clear hw1 h0 h1 h2 h3 hg hmw hgn'
      go_wp2_with fail
      go_loopw [5] (fun vj wr => ∃ j i : Nat, vj = .int .i64 j ∧ Hid (j = 2 * i ∧ j ≤ n) ∧ MapIs KB wr w.heap.size (tabF (Opx.T.take (Opx.base k + i))) ∧ w1.grownBy wr (some w.heap.size))
        (fun vj _ => 1000 - (intOf vj).toNat)
      case atStart => exact ⟨0, 0, rfl, ⟨by omega, by omega⟩, hmap1, ⟨rfl, rfl, rfl, Nat.le_refl _, fun _ _ _ => rfl⟩⟩
      case round =>
        obtain ⟨j, i, rfl, hj, hmi, hgi⟩ := hrel
        have hsi := hgi.size
        by_cases hjn : j + 1 < n
        · obtain ⟨hr1, hr2, hr3⟩ := Opx.rows_of k hlt i (by have := hj.out; omega) (by have := hj.out; have := Hn.out; omega)
          have hj60 : j < 60 := by omega
          have hcs := Opx.T_small _ (List.mem_of_getElem? hr3)
          have htf := tabF_take hr3
          rw [show 2 * i = j from hj.out.1.symm] at hr1 hr2 hr3 hcs htf
          have hgc : wr.heap[wo.heap.size]? = some (.cells (gcells (Opx.grp k)).toArray 60 (0, 0)) := by
            rw [hgi.block _ (by omega) (by simp; omega)]; exact hg1
          have htc : wr.heap[wo.heap.size + 1]? = some (.cells (((Opx.toks k).map fun l => Value.string (str l)).toArray) 9 (0, 0)) := by
            rw [hgi.block _ (by omega) (by simp; omega)]; exact ht1
          have hc0 := tok_cell k j n _ wr Hn.out (by omega) htc
          have hc1 := tok_cell k (j + 1) n _ wr Hn.out hjn htc
          have hg0 : wr.cell? ⟨wo.heap.size, 0, none⟩ = some (.int .u64 ((Opx.grp k).gas : Int)) := by simp [World.cell?, hgc, gcells]
          have hg1' : wr.cell? ⟨wo.heap.size, 1, none⟩ = some (.int .i64 ((Opx.grp k).inn : Int)) := by simp [World.cell?, hgc, gcells]
          have hg2' : wr.cell? ⟨wo.heap.size, 2, none⟩ = some (.int .i64 ((Opx.grp k).out : Int)) := by simp [World.cell?, hgc, gcells]
          clear hgc htc
          generalize Opx.tok k j = t0 at *
          generalize Opx.tok k (j + 1) = t1 at *
          obtain ⟨c, hht⟩ : ∃ c, c = hexTo t0 2 := ⟨_, rfl⟩
          rw [← hht] at hr3 hcs htf
          have hsz0 : (str t0).size = 2 := by rw [str_size]; exact hr1
          have Hp : Hid (Calls Tryd.prog 28 #[.string (str t0), .int .i64 16, .int .i64 8] wr fun e w' =>
              e = .returned (.tuple #[.int .u64 (c : Int), .nilIface]) ∧ w' = Lib.bytesWorld wr 5 (str t0)) := by
            rw [hht]; exact parse_any (str t0) wr hsz0 hr2
          clear hr1 hr2 hsz0
          go_wp2_with fail
          refine Hp.out.mono ?_
          rintro e w2 ⟨rfl, hw2⟩
          have hgw : wr.grownBy w2 (some w.heap.size) := by rw [hw2]; exact grown_bytes wr _ _ _
          have hmi2 : MapIs KB w2 w.heap.size (tabF (Opx.T.take (Opx.base k + i))) := by
            rw [hw2]; exact hmi.of_block (Lib.bytesWorld_at_old _ _ _ _ (by omega))
          have hc02 := hgw.cell hc0 (by simp; omega)
          have hc12 := hgw.cell hc1 (by simp; omega)
          have hg02 := hgw.cell hg0 (by simp; omega)
          have hg12 := hgw.cell hg1' (by simp; omega)
          have hg22 := hgw.cell hg2' (by simp; omega)
          have Hht := Lib.hid (And.intro hht (And.intro hr3 htf)); clear hht hr3 htf
          have hc256 : c < 256 := hcs
          clear hw2 hc0 hc1 hg0 hg1' hg2' Hp hcs
          go_wp2_with fail
          have q1 : IntKind.i64.wrap ((j : Int) + 1) = (j : Int) + 1 := IntWalk.i64_in _ ⟨by omega, by omega⟩
          have q2 : 0 ≤ (j : Int) + 1 := by omega
          have q3 : ((j : Int) + 1).toNat = j + 1 := by omega
          have q4 : (j : Int) + 1 < (n : Int) := by omega
          have q5 : IntKind.u8.wrap (c : Int) = (c : Int) := IntWalk.u8_in _ ⟨by omega, by omega⟩
          refine wp_region_still_tail 15 (by kernel_rfl) (by kernel_rfl) ?_
          change wpStill _ _ w2.drew _ _ _
          simp only [List.take_succ_cons, List.take_zero, List.drop_succ_cons, List.drop_zero]
          repeat still_step
          refine wpStill_nil ?_
          change wpList _ _ _ _ _ w2.drew
          clear q1 q2 q3 q4 q5
          go_wp2_with (at_mapUpdate; refine wpList_store (K := KB) w2.drew rfl _ _ _ 48 rfl 5 25 Tryd.underlying48 koB w.heap.size _ rfl (hmi2.of_block rfl) _ _ rfl rfl (kb _) ?_; intro w3 hm3 hg3 hs3; have hm4 := Lib.hid hm3; have hg4 := Lib.hid hg3; clear hm3 hg3 hs3)
          refine ⟨⟨j + 2, i + 1, by go_num, ⟨by have := hj.out; omega, by omega⟩, ?_, ?_⟩, by simp [intOf]; omega⟩
          · rw [show Opx.base k + (i + 1) = Opx.base k + i + 1 from by omega, Hht.out.2.2]
            exact hm4.out
          · exact grown_trans (grown_trans hgi hgw) (hg4.out.of_drew)
        · have hj60 : j < 61 := by have := hj.out; omega
          go_wp2_with fail
          refine ⟨⟨k + 1, by go_num, by omega, ?_, ?_, ?_⟩, by simp [intOf]; omega⟩
          · have h1 := hj.out; have h2 := HX.out.1; have h3 := Hn.out
            have : Opx.base k + i = Opx.base (k + 1) := by omega
            rw [← this]; exact hmi
          · rw [hgi.block _ (by omega) (by simp)]; exact hG1
          · exact hb1.grown hgi (by omega) (by intro j hj; cases hj; omega)
    · have : k = 24 := by omega
      rw [this, Opx.base_24] at hmap
      clear hg this
      go_wp2_with fail
      go_loopw [53] (fun vi wr => ∃ q : Nat, vi = .int .i64 q ∧ q ≤ 32 ∧ MapIs KB wr w.heap.size (tabF (Opx.T.take (75 + q))) ∧ Below w.heap.size w wr)
        (fun vi _ => 32 - (intOf vi).toNat)
      case atStart => exact ⟨0, rfl, by omega, hmap, hb⟩
      case round =>
        clear hmap hb
        obtain ⟨q, rfl, hq, hmap, hb⟩ := hrel
        by_cases hqn : q < 32
        · have Hx := Lib.hid (tabF_take (Opx.rows_push q hqn))
          have hdl := dec_short (q + 1) (by omega)
          have hB := hmap.lt
          have hit := fun W => Lib.hid (itoa_any (q + 1) W (by omega))
          generalize Lib.decDigits (q + 1) = d at hdl Hx hit
          go_wp2_with fail
          refine (hit _).out.mono ?_
          rintro e w2 ⟨rfl, hw2⟩
          subst hw2
          clear hit
          go_wp2_with (at_mapUpdate; refine wpList_store (K := KB) w2 rfl _ _ _ 48 rfl 5 25 Tryd.underlying48 koB w.heap.size _ rfl hmap (.int .u8 (96 + (q : Int))) (.agg #[.string ({ data := #[80, 85, 83, 72] } ++ { data := d.toArray }), .int .u64 3, .int .i64 0, .int .i64 1]) rfl rfl (kb _) ?_; intro w3 hm3 hg3 hs3; have hm4 := Lib.hid hm3; have hg4 := Lib.hid hg3; clear hm3 hg3 hs3; go_frame)
          go_roundw
          case rel =>
            refine ⟨q + 1, by go_num, by omega, ?_, ?_⟩
            · rw [show 75 + (q + 1) = 75 + q + 1 from by omega, Hx.out]
              exact map_row hm4.out (by omega) (str_app [80, 85, 83, 72] d) rfl rfl rfl
            · exact hb.grown hg4.out (by omega) (by intro j hj; cases hj; omega)
          case measure => simp [intOf]; omega
        · have : q = 32 := by omega
          rw [this] at hmap
          clear this
          go_wp2_with fail
          go_loopw [66] (fun vi wr => ∃ q : Nat, vi = .int .i64 q ∧ q ≤ 16 ∧ MapIs KB wr w.heap.size (tabF (Opx.T.take (107 + 2 * q))) ∧ Below w.heap.size w wr)
            (fun vi _ => 16 - (intOf vi).toNat)
          case atStart => exact ⟨0, rfl, by omega, hmap, hb⟩
          case round =>
            clear hmap hb hqn hq
            obtain ⟨q, rfl, hq, hmap, hb⟩ := hrel
            by_cases hqn : q < 16
            · have Hx := Lib.hid (tabF_take (Opx.rows_dup q hqn))
              have Hy := Lib.hid (tabF_take (Opx.rows_swap q hqn))
              have hdl := dec_short (q + 1) (by omega)
              have hB := hmap.lt
              have hit := fun W => Lib.hid (itoa_any (q + 1) W (by omega))
              generalize Lib.decDigits (q + 1) = d at hdl Hx Hy hit
              go_wp2_with fail
              refine (hit _).out.mono ?_
              rintro e w2 ⟨rfl, hw2⟩
              subst hw2
              clear hit
              have tok1 : True := trivial
              go_wp2_with (first | (at_mapUpdate; have _t := tok1; refine wpList_store (K := KB) w2 rfl _ _ _ 48 rfl 5 25 Tryd.underlying48 koB w.heap.size _ rfl hmap (.int .u8 (128 + (q : Int))) (.agg #[.string ({ data := #[68, 85, 80] } ++ { data := d.toArray }), .int .u64 3, .int .i64 ((q : Int) + 1), .int .i64 ((q : Int) + 2)]) rfl rfl (kb _) ?_; intro w3 hm3 hg3 hs3; have hm4 := Lib.hid hm3; have hg4 := Lib.hid hg3; clear hm3 hg3 hs3 tok1 _t; go_frame) | (at_mapUpdate; refine wpList_store (K := KB) w3 rfl _ _ _ 48 rfl 5 25 Tryd.underlying48 koB w.heap.size _ rfl hm4.out (.int .u8 (144 + (q : Int))) (.agg #[.string ({ data := #[83, 87, 65, 80] } ++ { data := d.toArray }), .int .u64 3, .int .i64 ((q : Int) + 2), .int .i64 ((q : Int) + 2)]) rfl rfl (kb _) ?_; intro w5 hm3 hg3 hs3; have hm6 := Lib.hid hm3; have hg6 := Lib.hid hg3; clear hm3 hg3 hs3; go_frame))
              go_roundw
              case rel =>
                refine ⟨q + 1, by go_num, by omega, ?_, ?_⟩
                · have h1' : upd (tabF (Opx.T.take (107 + 2 * q))) (.int .u8 (128 + (q : Int))) (.agg #[.string ({ data := #[68, 85, 80] } ++ { data := d.toArray }), .int .u64 3, .int .i64 ((q : Int) + 1), .int .i64 ((q : Int) + 2)]) = tabF (Opx.T.take (107 + 2 * q + 1)) := by
                    rw [Hx.out, str_app [68, 85, 80] d]
                    rfl
                  rw [show 107 + 2 * (q + 1) = 107 + 2 * q + 1 + 1 from by omega, Hy.out, ← h1']
                  exact map_row hm6.out (by omega) (str_app [83, 87, 65, 80] d) rfl (by omega) (by omega)
                · exact (hb.grown hg4.out (by omega) (by intro j hj; cases hj; omega)).grown hg6.out (by have := hg4.out.size; omega) (by intro j hj; cases hj; omega)
              case measure => simp [intOf]; omega
            · have : q = 16 := by omega
              rw [this] at hmap
              clear this
              go_wp2_with fail
              go_loopw [95] (fun vi wr => ∃ q : Nat, vi = .int .i64 q ∧ q ≤ 5 ∧ MapIs KB wr w.heap.size (tabF (Opx.T.take (139 + q))) ∧ Below w.heap.size w wr)
                (fun vi _ => 5 - (intOf vi).toNat)
              case atStart => exact ⟨0, rfl, by omega, hmap, hb⟩
              case round =>
                clear hmap hb hqn hq
                obtain ⟨q, rfl, hq, hmap, hb⟩ := hrel
                by_cases hqn : q < 5
                · have Hx := Lib.hid (tabF_take (Opx.rows_log q hqn))
                  have hdl := dec_short q (by omega)
                  have hB := hmap.lt
                  have hit := fun W => Lib.hid (itoa_any q W (by omega))
                  generalize Lib.decDigits q = d at hdl Hx hit
                  go_wp2_with fail
                  refine (hit _).out.mono ?_
                  rintro e w2 ⟨rfl, hw2⟩
                  subst hw2
                  clear hit
                  go_wp2_with (at_mapUpdate; refine wpList_store (K := KB) w2 rfl _ _ _ 48 rfl 5 25 Tryd.underlying48 koB w.heap.size _ rfl hmap (.int .u8 (160 + (q : Int))) (.agg #[.string ({ data := #[76, 79, 71] } ++ { data := d.toArray }), .int .u64 375, .int .i64 ((q : Int) + 2), .int .i64 0]) rfl rfl (kb _) ?_; intro w3 hm3 hg3 hs3; have hm4 := Lib.hid hm3; have hg4 := Lib.hid hg3; clear hm3 hg3 hs3; go_frame)
                  go_roundw
                  case rel =>
                    refine ⟨q + 1, by go_num, by omega, ?_, ?_⟩
                    · rw [show 139 + (q + 1) = 139 + q + 1 from by omega, Hx.out]
                      exact map_row hm4.out (by omega) (str_app [76, 79, 71] d) rfl (by omega) rfl
                    · exact hb.grown hg4.out (by omega) (by intro j hj; cases hj; omega)
                  case measure => simp [intOf]; omega
                · have : q = 5 := by omega
                  rw [this, List.take_of_length_le (by rw [Opx.T_length]; omega)] at hmap
                  clear this
                  go_wp2_with fail
                  go_ret
                  exact ⟨rfl, hmap, hb⟩
end Go.Proofs.YtnachjhhbhhpoaaDoor
