/-
  A world over nothing: its deeds.
-/
import Derived.Test.YtbjkdnbmgoibiaaGreatDoorWs
namespace Go.Proofs.YtbjkdnbmgoibiaaGreatDoor
open Go.RowKit Go.MapKept
attribute [local go_sem ↓] Go.wp_at_zero Go.wp_at_succ
/-- A function that turns an account, by what stands in a box. -/
def Turns (id : FuncId) (r : Nat) (o : Obj) (g : Ac → Ac) : Prop :=
  ∀ (W : World) (q : Nat) (x : Ac), W.heap[r]? = some o → W.heap[q]? = some (.cells (acCells x) 33 (0, 0)) → q ≠ r →
    Calls Tryz.prog id #[.pointer (some ⟨q, 0, none⟩), .pointer (some ⟨r, 0, none⟩)] W fun e W' => e = .returned (.tuple #[]) ∧ W'.heap[q]? = some (.cells (acCells (g x)) 33 (0, 0)) ∧ Only (· = q) W W'
set_option maxHeartbeats 1000000 in
theorem nonce_turns (n r : Nat) : Turns 60 r (.cells #[.int .u64 (n : Int)] 22 (0, 0)) (fun x => { x with nonce := n }) := by
  intro W q x hr hq hne
  have c0 : W.cell? ⟨r, 0, none⟩ = some (.int .u64 (n : Int)) := cell_of hr 0
  have d0 : W.cell? ⟨q, 0, none⟩ = some (.int .u64 (x.nonce : Int)) := cell_of hq 0
  have f0 : W.frozen? ⟨q, 0, none⟩ = false := free_of hq 0
  have Hq := Lib.hid hq; clear hq hr
  go_enter Tryz.func60, Tryz.ntmps60
  go_wp2_with fail
  go_end0
  exact ⟨rfl, setCell_block Hq.out 0 _, Only.setCell _⟩
set_option maxHeartbeats 1000000 in
theorem balance_turns (v : Wd) (r : Nat) : Turns 44 r (.cells #[.int .u64 (v.a : Int), .int .u64 (v.b : Int), .int .u64 (v.c : Int), .int .u64 (v.d : Int)] 24 (0, 0)) (fun x => { x with bal := v }) := by
  intro W q x hr hq hne
  have c0 : W.cell? ⟨r, 0, none⟩ = some (.int .u64 (v.a : Int)) := cell_of hr 0
  have c1 : W.cell? ⟨r, 1, none⟩ = some (.int .u64 (v.b : Int)) := cell_of hr 1
  have c2 : W.cell? ⟨r, 2, none⟩ = some (.int .u64 (v.c : Int)) := cell_of hr 2
  have c3 : W.cell? ⟨r, 3, none⟩ = some (.int .u64 (v.d : Int)) := cell_of hr 3
  have d1 : W.cell? ⟨q, 1, none⟩ = some (.int .u64 (x.bal.a : Int)) := cell_of hq 1
  have d2 : W.cell? ⟨q, 2, none⟩ = some (.int .u64 (x.bal.b : Int)) := cell_of hq 2
  have d3 : W.cell? ⟨q, 3, none⟩ = some (.int .u64 (x.bal.c : Int)) := cell_of hq 3
  have d4 : W.cell? ⟨q, 4, none⟩ = some (.int .u64 (x.bal.d : Int)) := cell_of hq 4
  have f1 : W.frozen? ⟨q, 1, none⟩ = false := free_of hq 1
  have f2 : W.frozen? ⟨q, 2, none⟩ = false := free_of hq 2
  have f3 : W.frozen? ⟨q, 3, none⟩ = false := free_of hq 3
  have f4 : W.frozen? ⟨q, 4, none⟩ = false := free_of hq 4
  have Hq := Lib.hid hq; clear hq hr
  go_enter Tryz.func44, Tryz.ntmps44
  go_wp2_with fail
  go_end0
  refine ⟨rfl, setCell_block (setCell_block (setCell_block (setCell_block Hq.out 1 _) 2 _) 3 _) 4 _, ?_⟩
  exact (((Only.setCell _).trans (Only.setCell _) (fun _ _ e => e)).trans (Only.setCell _) (fun _ _ e => e)).trans (Only.setCell _) (fun _ _ e => e)
theorem after_set {w w3 : World} {p : Nat} {c : Value} {S : St} {H : List St} {ba bs bz : Nat} {u : Value} {fs : List Value} {k : ByteArray} {v : Ac} (h : WAt w p c S H S ba bs bz u fs)
    (hm : MapIs KS w3 ba (accF (turn S.acc k (some v)))) (hb : SetBox w3 w.drew.heap.size ba k ((S.acc k).getD Ac.zero) (S.acc k).isSome) (ho : Only (· = ba) w.drew w3) :
    WAt w3 p c { S with acc := turn S.acc k (some v) } H S ba bs bz u fs ∧ Moved p w w3 ∧ UndoIs w3 p ba bs bz (setFn w.heap.size) { S with acc := turn S.acc k (some v) } S := by
  have ho' : Only (· = ba) w w3 := ⟨ho.os, ho.tape, ho.output, ho.size, ho.block⟩
  obtain ⟨h1, h2⟩ := h.set_acc hm ho'
  exact ⟨h1, h2, h.undo_acc (ho'.block p h.lt h.na) hb⟩
set_option maxHeartbeats 4000000 in
set_option maxRecDepth 100000 in
theorem with_any (id r : Nat) (o : Obj) (g : Ac → Ac) (ht : Turns id r o g) (he : Enters id) (p : Nat) (S : St) (H : List St) (a : ByteArray) (w : World) (hw : WIs w p (.pointer none) S H) (ha : a.size = 20) (hH : H.length < 1000000)
    (hr : w.heap[r]? = some o) :
    Calls Tryz.prog 43 #[.pointer (some ⟨p, 0, none⟩), .string a, .func (.func id) #[] #[.pointer (some ⟨r, 0, none⟩)]] w fun e w' =>
      e = .returned (.int .i64 0) ∧ WIs w' p (.pointer none) { S with acc := turn S.acc a (some (g (S.account a))) } (H ++ [S]) ∧ Moved p w w' := by
  have hrl : r < w.heap.size := (Array.getElem?_eq_some_iff.1 hr).1
  have Ht := Lib.hid ht; clear ht
  have hac := fun W => Lib.hid (account_any a p S H W)
  obtain ⟨x, hx⟩ : ∃ x, x = S.account a := ⟨_, rfl⟩
  rw [← hx] at hac ⊢
  have HX := Lib.hid hx; clear hx
  have HW := Lib.hid hw; clear hw
  have HR := Lib.hid hr; clear hr
  have Ha := Lib.hid ha; clear ha
  go_enter Tryz.func43, Tryz.ntmps43
  go_wp2_with fail
  refine ((hac _).out HW.out Ha.out).mono ?_
  rintro e w1 ⟨rfl, hb1⟩
  clear hac
  have hs1 := hb1.size
  have HB1 := Lib.hid hb1; clear hb1
  have He : ∀ W, (callFunc id #[.pointer (some ⟨w1.heap.size, 0, none⟩), .pointer (some ⟨r, 0, none⟩)]).run Tryz.prog W = .ok (.enter id #[.pointer (some ⟨w1.heap.size, 0, none⟩), .pointer (some ⟨r, 0, none⟩)]) W := fun W => he _ W
  clear he
  go_wp2_with fail
  refine (Ht.out _ w1.heap.size x (by rw [alloc_block (by omega), HB1.out.block r hrl]; exact HR.out) (newest _ _) (by omega)).mono ?_
  rintro e w2 ⟨rfl, hq, ho⟩
  obtain ⟨y, hy⟩ : ∃ y, y = g x := ⟨_, rfl⟩
  rw [← hy] at hq
  have HY := Lib.hid hy; clear hy He Ht HR
  have hb2 : Below w1.heap.size w1 w2 := ((Only.refl (fun z => z = w1.heap.size) w1).alloc (.cells (acCells x) 33) |>.trans ho (fun _ _ e => e)).below (fun k hk e => by omega) (Nat.le_refl _)
  have hB : Below w.heap.size w w2 := HB1.out.trans (hb2.mono hs1)
  obtain ⟨ba, bs, bz, u, fs, hA⟩ := (HW.out.below hB).at_
  obtain ⟨q, hqe⟩ : ∃ q, q = w1.heap.size := ⟨_, rfl⟩
  rw [← hqe] at hq ⊢
  have hpw := HW.out.lt
  have hpl := hA.lt
  have hql : q < w2.heap.size := (Array.getElem?_eq_some_iff.1 hq).1
  have hfl : ∀ k, Foot w2 p k → k < w.heap.size := fun k f => HW.out.foot_lt k (f.of_block (hB.block p hpw))
  have hqf : ¬ Foot w2 p q := fun f => by have := hfl q f; omega
  have hqa : q ≠ ba := fun e => hqf ((hA.foot q).2 (.inr (.inl e)))
  have hMV := Lib.hid (Moved.of_below hB hpw)
  have hpa := hA.na
  have c0 : w2.cell? ⟨p, 0, none⟩ = some (.map (some ba)) := cell_of hA.blk 0
  have d0 : w2.cell? ⟨q, 0, none⟩ = some (.int .u64 (y.nonce : Int)) := cell_of hq 0
  have d1 : w2.cell? ⟨q, 1, none⟩ = some (.int .u64 (y.bal.a : Int)) := cell_of hq 1
  have d2 : w2.cell? ⟨q, 2, none⟩ = some (.int .u64 (y.bal.b : Int)) := cell_of hq 2
  have d3 : w2.cell? ⟨q, 3, none⟩ = some (.int .u64 (y.bal.c : Int)) := cell_of hq 3
  have d4 : w2.cell? ⟨q, 4, none⟩ = some (.int .u64 (y.bal.d : Int)) := cell_of hq 4
  have d5 : w2.cell? ⟨q, 5, none⟩ = some (.string y.code) := cell_of hq 5
  have HA := Lib.hid hA; have HQ := Lib.hid hq; have HQF := Lib.hid hqf; have HE := Lib.hid hqe; have HPA := Lib.hid hpa; have HQA := Lib.hid hqa
  clear hA hq hqf hqe hB hb2 ho hfl hpa hqa HB1
  have hset := fun W hm => Lib.hid (set_any ba a y S.acc W hm)
  go_wp2_with fail
  go_region_held3 (fun w' => w'.cell? ⟨p, 0, none⟩ = some (.map (some ba)) ∧ w'.cell? ⟨q, 0, none⟩ = some (.int .u64 (y.nonce : Int)) ∧ w'.cell? ⟨q, 1, none⟩ = some (.int .u64 (y.bal.a : Int)) ∧ w'.cell? ⟨q, 2, none⟩ = some (.int .u64 (y.bal.b : Int)) ∧
      w'.cell? ⟨q, 3, none⟩ = some (.int .u64 (y.bal.c : Int)) ∧ w'.cell? ⟨q, 4, none⟩ = some (.int .u64 (y.bal.d : Int)) ∧ w'.cell? ⟨q, 5, none⟩ = some (.string y.code))
    (first | go_keep | exact ⟨hk0, hk1 0 _ d0, hk1 1 _ d1, hk1 2 _ d2, hk1 3 _ d3, hk1 4 _ d4, hk1 5 _ d5⟩)
    (first
      | (go_at_call 47; (with_reducible refine (hset _ ?_).out.mono ?_); exact HA.out.maps.acc.of_block rfl; rintro e w3 ⟨rfl, hm3, hbx, ho3, hs3⟩
         have h3 := after_set HA.out hm3 hbx ho3
         have hk0 : w3.cell? ⟨p, 0, none⟩ = some (.map (some ba)) := cell_of h3.1.blk 0
         have hk1 : ∀ o v, w2.cell? ⟨q, o, none⟩ = some v → w3.cell? ⟨q, o, none⟩ = some v := fun o v h => by rw [World.cell?_of_block (w := w2) (ho3.block q hql HQA.out)]; exact h
         have H3 := Lib.hid h3; clear h3 hm3 hbx ho3 hs3)
      | (go_at_call 46; refine (done_any p (.pointer none) _ S H ba bs bz u fs _ _ H3.out.1 hH H3.out.2.2).mono ?_; rintro e w4 ⟨rfl, ⟨v', h4⟩, hmv4⟩
         have hk0 : w4.cell? ⟨p, 0, none⟩ = some (.map (some ba)) := cell_of h4.blk 0
         have hk1 : ∀ o v, w2.cell? ⟨q, o, none⟩ = some v → w4.cell? ⟨q, o, none⟩ = some v := fun o v h => by rw [World.cell?_of_block (w := w3) (hmv4.only.block q (Nat.lt_of_lt_of_le hql H3.out.2.1.only.size) (fun f => HQF.out (H3.out.2.1.foot q hql f)))]; exact hk1 o v h
         have H4 := Lib.hid h4; have HM4 := Lib.hid hmv4; clear h4 hmv4))
  go_wp2_with fail
  go_ret
  exact ⟨rfl, by rw [← HY.out]; exact H4.out.mid, hMV.out.trans (H3.out.2.1.trans HM4.out)⟩
set_option maxHeartbeats 1000000 in
theorem with_bad (fv v : Value) (a : ByteArray) (w : World) (ha : a.size ≠ 20) (hs : a.size ≤ 9223372036854775807) :
    Calls Tryz.prog 43 #[v, .string a, fv] w fun e w' => e = .returned (.int .i64 1) ∧ Below w.heap.size w w' := by
  have hac := fun W => Lib.hid (account_bad a v W ha hs)
  go_enter Tryz.func43, Tryz.ntmps43
  go_wp2_with fail
  refine (hac _).out.mono ?_
  rintro e w1 ⟨rfl, hb1⟩
  clear hac
  have HB1 := Lib.hid hb1; clear hb1
  go_wp2_with fail
  go_ret
  exact ⟨rfl, HB1.out.alloc HB1.out.size _⟩
set_option maxHeartbeats 1000000 in
theorem setNonce_any (p n : Nat) (S : St) (H : List St) (a : ByteArray) (w : World) (hw : WIs w p (.pointer none) S H) (ha : a.size = 20) (hH : H.length < 1000000) :
    Calls Tryz.prog 23 #[.pointer (some ⟨p, 0, none⟩), .string a, .int .u64 (n : Int)] w fun e w' =>
      e = .returned (.int .i64 0) ∧ WIs w' p (.pointer none) { S with acc := turn S.acc a (some { S.account a with nonce := n }) } (H ++ [S]) ∧ Moved p w w' := by
  have hb : Below w.heap.size w (w.alloc (.cells #[.int .u64 (n : Int)] 22)) := (Below.refl _ _).alloc (Nat.le_refl _) _
  have hwi := Lib.hid (with_any 60 w.heap.size _ _ (nonce_turns n w.heap.size) (enters_of Tryz.func60 (by kernel_rfl) (by kernel_rfl)) p S H a _ (hw.below hb) ha hH (newest w _))
  have HM := Lib.hid (Moved.of_below hb hw.lt)
  clear hw hb ha
  go_enter Tryz.func23, Tryz.ntmps23
  go_wp2_with fail
  refine hwi.out.mono ?_
  rintro e w1 ⟨rfl, h1, h2⟩
  have H1 := Lib.hid h1; have H2 := Lib.hid h2; clear h1 h2 hwi
  go_wp2_with fail
  go_ret
  exact ⟨rfl, H1.out, HM.out.trans H2.out⟩
set_option maxHeartbeats 1000000 in
theorem setBalance_any (p : Nat) (v : Wd) (S : St) (H : List St) (a : ByteArray) (w : World) (hw : WIs w p (.pointer none) S H) (ha : a.size = 20) (hH : H.length < 1000000) :
    Calls Tryz.prog 11 #[.pointer (some ⟨p, 0, none⟩), .string a, wv v] w fun e w' =>
      e = .returned (.int .i64 0) ∧ WIs w' p (.pointer none) { S with acc := turn S.acc a (some { S.account a with bal := v }) } (H ++ [S]) ∧ Moved p w w' := by
  have hb : Below w.heap.size w (w.alloc (.cells #[.int .u64 (v.a : Int), .int .u64 (v.b : Int), .int .u64 (v.c : Int), .int .u64 (v.d : Int)] 24)) := (Below.refl _ _).alloc (Nat.le_refl _) _
  have hwi := Lib.hid (with_any 44 w.heap.size _ _ (balance_turns v w.heap.size) (enters_of Tryz.func44 (by kernel_rfl) (by kernel_rfl)) p S H a _ (hw.below hb) ha hH (newest w _))
  have HM := Lib.hid (Moved.of_below hb hw.lt)
  clear hw hb ha
  go_enter Tryz.func11, Tryz.ntmps11
  go_wp2_with fail
  refine hwi.out.mono ?_
  rintro e w1 ⟨rfl, h1, h2⟩
  have H1 := Lib.hid h1; have H2 := Lib.hid h2; clear h1 h2 hwi
  go_wp2_with fail
  go_ret
  exact ⟨rfl, H1.out, HM.out.trans H2.out⟩
set_option maxHeartbeats 1000000 in
theorem setNonce_bad (n : Nat) (v : Value) (a : ByteArray) (w : World) (ha : a.size ≠ 20) (hs : a.size ≤ 9223372036854775807) :
    Calls Tryz.prog 23 #[v, .string a, .int .u64 (n : Int)] w fun e w' => e = .returned (.int .i64 1) ∧ Below w.heap.size w w' := by
  have hwi := fun fv W => Lib.hid (with_bad fv v a W ha hs)
  go_enter Tryz.func23, Tryz.ntmps23
  go_wp2_with fail
  refine (hwi _ _).out.mono ?_
  rintro e w1 ⟨rfl, h1⟩
  have H1 := Lib.hid h1; clear h1 hwi
  go_wp2_with fail
  go_ret
  exact ⟨rfl, ((Below.refl _ _).alloc (Nat.le_refl _) _).trans (H1.out.mono (by simp))⟩
set_option maxHeartbeats 1000000 in
theorem mark_any (p : Nat) (c : Value) (S : St) (H : List St) (w : World) (hw : WIs w p c S H) :
    Calls Tryz.prog 24 #[.pointer (some ⟨p, 0, none⟩)] w fun e w' => e = .returned (.int .i64 (H.length : Int)) ∧ w = w' := by
  obtain ⟨ba, bs, bz, u, fs, hA⟩ := hw.at_
  have c4 : w.cell? ⟨p, 4, none⟩ = some u := cell_of hA.blk 4
  have hr := hA.row.2
  clear hA hw
  rcases hr with ⟨rfl, h0⟩ | ⟨g, cap, cur, rfl, _⟩
  · go_enter Tryz.func24, Tryz.ntmps24
    go_wp2_with fail
    go_ret
    exact ⟨reti (by rw [h0]; rfl), rfl⟩
  · go_enter Tryz.func24, Tryz.ntmps24
    go_wp2_with fail
    go_ret
    exact ⟨rfl, rfl⟩
/-- Taken back to a mark, and cut there. -/
theorem back_shut {w wr : World} {p : Nat} {c : Value} {S R : St} {H : List St} {ba bs bz g cap m : Nat} {fs : List Value} (h : WAt w p c S H S ba bs bz (.slice (some ⟨g, 0, none⟩) H.length cap) fs)
    (hm : m ≤ H.length) (hR : (H ++ [S])[m]? = some R) (hmaps : Maps3 wr ba bs bz R) (ho : Only (three ba bs bz) w wr) :
    WIs (wr.setCell ⟨p, 4, none⟩ (.slice (some ⟨g, 0, none⟩) m cap)) p c R (H.take m) ∧ Moved p w (wr.setCell ⟨p, 4, none⟩ (.slice (some ⟨g, 0, none⟩) m cap)) := by
  obtain ⟨h1, h2⟩ := h.turned hmaps ho
  have hg : g ≠ p := fun e => h.up (by rw [e]; rfl)
  have hb4 := setCell_block h1.blk 4 (.slice (some ⟨g, 0, none⟩) m cap)
  have hfl : fs.length = H.length := by have := h.row.1; omega
  have hmv : Moved p wr (wr.setCell ⟨p, 4, none⟩ (.slice (some ⟨g, 0, none⟩) m cap)) := by
    refine ⟨(Only.setCell _).mono fun _ _ e => .inl e, fun k _ f => ?_⟩
    rcases (foot_iff hb4 h.vc rfl k).1 f with e | e | e | e | e
    · exact (h1.foot k).2 (.inl e)
    · exact (h1.foot k).2 (.inr (.inl e))
    · exact (h1.foot k).2 (.inr (.inr (.inl e)))
    · exact (h1.foot k).2 (.inr (.inr (.inr (.inl e))))
    · exact (h1.foot k).2 (.inr (.inr (.inr (.inr e))))
  refine ⟨WAt.mid (fs := fs.take m) ⟨hb4, hmaps.of_blocks (setCell_other h.na _ _) (setCell_other h.ns _ _) (setCell_other h.nz _ _), ⟨by simp; omega, ?_⟩, ?_, h.na, h.ns, h.nz, h.up, h.ua, h.us, h.uz, h.vc⟩, h2.trans hmv⟩
  · rcases h1.row.2 with ⟨hn, _⟩ | ⟨g', cap', cur, hv, hge, hgg, hle, hcm, hcs, htk⟩
    · cases hn
    · simp only [Value.slice.injEq, Option.some.injEq, Addr.mk.injEq, and_true] at hv
      obtain ⟨rfl, _, rfl⟩ := hv
      refine .inr ⟨g, cap, cur, by simp; omega, hge, by rw [setCell_other (Ne.symm hg)]; exact hgg, by simp; omega, hcm, hcs, ?_⟩
      rw [← htk]
      simp [List.take_take]
  · intro i v A B g1 g2 g3
    have hi : i < m := by have := (List.getElem?_eq_some_iff.1 g3).1; simp at this; omega
    rw [List.getElem?_take, if_pos hi] at g1 g3
    refine (h1.undo i v A B g1 ?_ g3).keep hmv
    rcases Nat.lt_or_ge (i + 1) m with hlt | hge
    · rw [List.getElem?_append_left (by simp; omega), List.getElem?_take, if_pos hlt] at g2
      rw [List.getElem?_append_left (by omega)]; exact g2
    · have e : i + 1 = m := by omega
      rw [e] at g2
      rw [List.getElem?_append_right (by simp; omega)] at g2
      simp [Nat.min_eq_left hm] at g2
      rw [e, hR, g2]
set_option maxHeartbeats 2000000 in
set_option maxRecDepth 100000 in
theorem back_any (p m : Nat) (c : Value) (S R : St) (H : List St) (w : World) (hw : WIs w p c S H) (hm : m ≤ H.length) (hR : (H ++ [S])[m]? = some R) (hH : H.length < 1000000) :
    Calls Tryz.prog 27 #[.pointer (some ⟨p, 0, none⟩), .int .i64 (m : Int)] w fun e w' => e = .returned (.bool true) ∧ WIs w' p c R (H.take m) ∧ Moved p w w' := by
  obtain ⟨ba, bs, bz, u, fs, hA⟩ := hw.at_
  have c4 : w.cell? ⟨p, 4, none⟩ = some u := cell_of hA.blk 4
  have f4 : w.frozen? ⟨p, 4, none⟩ = false := free_of hA.blk 4
  have hpl := hA.lt
  rcases hA.row.2 with ⟨rfl, h0⟩ | ⟨g, cap, cur, rfl, hge, hgg, hle, hcm, hcs, htk⟩
  · have hm0 : m = 0 := by omega
    subst hm0
    have hH0 : H = [] := List.length_eq_zero_iff.1 h0
    subst hH0
    have hRS : R = S := by simpa using hR.symm
    subst hRS
    have HA := Lib.hid hA; have HW := Lib.hid hw
    clear hA hw hR
    go_enter Tryz.func27, Tryz.ntmps27
    go_wp2_with fail
    go_loop [5] (fun k => k = .int .i64 (-1)) (fun _ => 0)
    case atStart => rfl
    case round =>
      subst hrel
      go_wp2_with fail
      go_ret
      have hb : Below w.heap.size w (w.setCell ⟨p, 4, none⟩ (.slice none 0 0)) := by
        refine ⟨rfl, rfl, rfl, by simp [World.setCell], fun k hk => ?_⟩
        by_cases hkp : k = p
        · subst hkp
          rw [setCell_block HA.out.blk 4 (.slice none 0 0), HA.out.blk]; rfl
        · exact setCell_other (Ne.symm hkp) _ _
      exact ⟨rfl, HW.out.below hb, Moved.of_below hb hpl⟩
  · have hgp : g ≠ p := fun e => hA.up (by rw [e]; rfl)
    have hcell : ∀ i (h : i < fs.length), w.cell? ⟨g, i, none⟩ = some (fs[i]'h) := by
      intro i h
      rw [cell_of hgg]
      have hi : fs[i]? = some (fs[i]'h) := List.getElem?_eq_getElem h
      have hi2 : (List.take (H.length * 1) cur.toList)[i]? = some (fs[i]'h) := by rw [htk]; exact hi
      rw [List.getElem?_take] at hi2
      split at hi2
      · simpa using hi2
      · cases hi2
    have hfl : fs.length = H.length := by have := hA.row.1; omega
    have HA := Lib.hid hA; have HC := Lib.hid hcell; have HR := Lib.hid hR; have HF := Lib.hid hfl
    have c0 : w.cell? ⟨p, 0, none⟩ = some (.map (some ba)) := cell_of hA.blk 0
    clear hA hw hcell hR hfl hgg hcs htk hcm c0
    have q0 : ¬ ((m : Int) < 0) := by omega
    have q1 : decide ((H.length : Int) < (m : Int)) = false := by simp; omega
    go_enter Tryz.func27, Tryz.ntmps27
    go_wp2_with fail
    go_loopw [5] (fun vk wr => ∃ (i : Nat), vk = .int .i64 ((i : Int) - 1) ∧ m ≤ i ∧ i ≤ H.length ∧ Hid (∃ T, (H ++ [S])[i]? = some T ∧ Maps3 wr ba bs bz T) ∧ Hid (Only (three ba bs bz) w wr)) (fun vk _ => (intOf vk + 1).toNat - m)
    case atStart => exact ⟨H.length, rfl, hm, Nat.le_refl _, ⟨S, by simp, HA.out.maps⟩, Only.refl _ _⟩
    case round =>
      obtain ⟨i, rfl, hmi, hil, hT, hO⟩ := hrel
      have hpw : wr.heap[p]? = w.heap[p]? := hO.out.block p hpl (by rintro (e | e | e) <;> first | exact HA.out.na e | exact HA.out.ns e | exact HA.out.nz e)
      have hgw : wr.heap[g]? = w.heap[g]? := hO.out.block g (HA.out.row.lt g rfl).2 (by rintro (e | e | e) <;> first | exact HA.out.ua (by rw [← e]; rfl) | exact HA.out.us (by rw [← e]; rfl) | exact HA.out.uz (by rw [← e]; rfl))
      have c4' : wr.cell? ⟨p, 4, none⟩ = some (.slice (some ⟨g, 0, none⟩) H.length cap) := by rw [World.cell?_of_block (w := w) hpw]; exact c4
      have f4' : wr.frozen? ⟨p, 4, none⟩ = false := by rw [World.frozen?_of_block (w := w) hpw]; exact f4
      have HPW := Lib.hid hpw; clear hpw
      by_cases hlt : m < i
      · obtain ⟨T, hT1, hT2⟩ := hT.out
        have hi1 : i - 1 < fs.length := by have := HF.out; omega
        have hH1 : (H ++ [S])[i - 1 + 1]? = some T := by rw [show i - 1 + 1 = i from by omega]; exact hT1
        obtain ⟨Rr, hRr⟩ : ∃ Rr, H[i - 1]? = some Rr := ⟨H[i - 1]'(by omega), List.getElem?_eq_getElem (by omega)⟩
        obtain ⟨id, caps, F, hfe, he, hF, hc⟩ := HA.out.undo (i - 1) (fs[i - 1]'hi1) T Rr (List.getElem?_eq_getElem hi1) hH1 hRr
        have hcl := hc wr (fun b hb => hO.out.block b (hF b hb).1 (fun h3 => (hF b hb).2 ((HA.out.foot b).2 (by rcases h3 with e | e | e <;> first | exact .inr (.inl e) | exact .inr (.inr (.inl e)) | exact .inr (.inr (.inr (.inl e))))))) ⟨_, _, HPW.out.trans HA.out.blk⟩ hT2
        have d0 : wr.cell? ⟨g, i - 1, none⟩ = some (.func (.func id) #[] caps) := by
          rw [World.cell?_of_block (w := w) hgw, HC.out (i - 1) hi1, hfe]
        have He : ∀ W, (callFunc id caps).run Tryz.prog W = .ok (.enter id caps) W := fun W => he _ W
        have HCL := Lib.hid hcl; have HRr := Lib.hid hRr
        clear hcl hc hF hfe he hT1 hT2 hH1 hRr hgw
        obtain ⟨j, hj⟩ : ∃ j, i = j + 1 := ⟨i - 1, by omega⟩
        subst hj
        rw [show j + 1 - 1 = j from by omega] at d0
        have q2 : (m : Int) ≤ (j : Int) := by omega
        have q3 : (0 : Int) ≤ (j : Int) := by omega
        have q4 : (j : Int) < (H.length : Int) := by omega
        have q5 : ((j + 1 : Nat) : Int) - 1 = (j : Int) := by omega
        rw [q5]
        clear q5
        go_wp2_with fail
        refine HCL.out.mono ?_
        rintro e w4 ⟨rfl, hm4, ho4⟩
        have HM4 := Lib.hid hm4; have HO4 := Lib.hid ho4; clear hm4 ho4 HCL
        go_wp2_with fail
        refine ⟨⟨j, rfl, by omega, by omega, ⟨Rr, ?_, HM4.out⟩, hO.out.trans HO4.out (fun _ _ h => h)⟩, by simp [intOf]; omega⟩
        rw [List.getElem?_append_left (by omega)]
        exact HRr.out
      · have him : i = m := by omega
        subst him
        go_wp2_with fail
        go_ret
        obtain ⟨T, hT1, hT2⟩ := hT.out
        obtain rfl : T = R := Option.some.inj (hT1.symm.trans HR.out)
        exact ⟨rfl, back_shut HA.out hm HR.out hT2 hO.out⟩
end Go.Proofs.YtbjkdnbmgoibiaaGreatDoor
