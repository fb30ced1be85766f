/-
  OpNames: the walk.
-/
import Derived.Test.YtnachjhhbhhpoaaDoorOpP
namespace Go.Proofs.YtnachjhhbhhpoaaDoor
open Go.RowKit Go.Shelf
/-- What is known of a code goes together. -/
def fits (a : Nat) : Bool :=
  if known a then
    codeOf (infOf a).name == a && named (infOf a).name && decide ((infOf a).out ≤ (infOf a).inn + 1) && decide ((infOf a).inn ≤ 17) &&
    (if isPush a then (infOf a).inn == 0 && (infOf a).out == 1 else
     if 128 ≤ a ∧ a ≤ 143 then (infOf a).out == (infOf a).inn + 1 && (infOf a).inn + 127 == a else
     if 144 ≤ a ∧ a ≤ 159 then (infOf a).out == (infOf a).inn && (infOf a).inn + 142 == a else
     if 160 ≤ a ∧ a ≤ 164 then (infOf a).out == 0 && (infOf a).inn + 158 == a && (infOf a).gas == 375 else true)
  else infOf a == ⟨[], 0, 0, 0⟩ && !isPush a
theorem fits_all : ∀ a, a < 256 → fits a = true := by decide +kernel
theorem known_no {a : Nat} (ha : a < 256) (hk : known a = false) : infOf a = ⟨[], 0, 0, 0⟩ ∧ isPush a = false := by
  have h := fits_all a ha
  unfold fits at h
  simp [hk] at h
  exact h
theorem known_code {a : Nat} (ha : a < 256) (hk : known a = true) : codeOf (infOf a).name = a ∧ named (infOf a).name = true ∧ (infOf a).out ≤ (infOf a).inn + 1 ∧ (infOf a).inn ≤ 17 := by
  have h := fits_all a ha
  unfold fits at h
  simp [hk] at h
  exact ⟨h.1.1.1.1, h.1.1.1.2, h.1.1.2, h.1.2⟩
theorem known_kind {a : Nat} (ha : a < 256) (hk : known a = true) :
    (isPush a = true ∧ (infOf a).inn = 0 ∧ (infOf a).out = 1) ∨ (isPush a = false ∧ 128 ≤ a ∧ a ≤ 143 ∧ (infOf a).out = (infOf a).inn + 1 ∧ (infOf a).inn + 127 = a) ∨
    (isPush a = false ∧ 144 ≤ a ∧ a ≤ 159 ∧ (infOf a).out = (infOf a).inn ∧ (infOf a).inn + 142 = a) ∨ (isPush a = false ∧ 160 ≤ a ∧ a ≤ 164 ∧ (infOf a).out = 0 ∧ (infOf a).inn + 158 = a ∧ (infOf a).gas = 375) ∨
    (isPush a = false ∧ (a < 128 ∨ 164 < a)) := by
  have h := fits_all a ha
  unfold fits at h
  simp only [hk, if_true, Bool.and_eq_true] at h
  obtain ⟨_, h⟩ := h
  split at h
  · simp at h; exact .inl ⟨by assumption, h.1, h.2⟩
  · rename_i hp
    have hp' : isPush a = false := by simpa using hp
    split at h
    · rename_i hr; simp at h; exact .inr (.inl ⟨hp', hr.1, hr.2, h.1, h.2⟩)
    · split at h
      · rename_i hr; simp at h; exact .inr (.inr (.inl ⟨hp', hr.1, hr.2, h.1, h.2⟩))
      · split at h
        · rename_i hr; simp at h; exact .inr (.inr (.inr (.inl ⟨hp', hr.1, hr.2, h.1.1, h.1.2, h.2⟩)))
        · exact .inr (.inr (.inr (.inr ⟨hp', by omega⟩)))
theorem names_apart {a b : Nat} (ha : a < 256) (hb : b < 256) (ka : known a = true) (kb : known b = true) (h : (infOf a).name = (infOf b).name) : a = b := by
  rw [← (known_code ha ka).1, ← (known_code hb kb).1, h]
set_option maxHeartbeats 16000000 in
set_option maxRecDepth 100000 in
theorem opNames_any (a b : Nat) (m : Int) (w : World) (ha : a < 256) (hb : b < 256) (hm : w.cell? ⟨2, 0, none⟩ = some (.int .i64 m)) :
    Calls Tryd.prog 5 #[.int .u8 (a : Int), .int .u8 (b : Int)] w fun e w' => e = .returned (.bool true) ∧ Below w.heap.size w w' := by
  have hms := cell_lt hm
  have Hm := Lib.hid hm; clear hm
  go_enter Tryd.func5, Tryd.ntmps5
  go_wp2_with fail
  refine (examples_any m _ Hm.out).mono ?_
  rintro e w1 ⟨rfl, hb1⟩
  have hs1 := hb1.size
  have hc1 : w1.cell? ⟨2, 0, none⟩ = some (.int .i64 m) := by rw [hb1.cell (p := ⟨2, 0, none⟩) hms]; exact Hm.out
  go_wp2_with fail
  refine (of_any a m _ hc1).mono ?_
  rintro e w2 ⟨rfl, hb2⟩
  obtain ⟨x, hx⟩ : ∃ x, x = infOf a := ⟨_, rfl⟩
  obtain ⟨ok, hok⟩ : ∃ ok, ok = known a := ⟨_, rfl⟩
  rw [← hx, ← hok]
  have hs2 := hb2.size
  have Hx := Lib.hid (And.intro hx hok); clear hx hok
  unfold infv
  go_wp2_with fail
  obtain ⟨C, hC⟩ : ∃ C : Array Value, C = #[.string ⟨x.name.toArray⟩, .int .u64 (x.gas : Int), .int .i64 (x.inn : Int), .int .i64 (x.out : Int)] := ⟨_, rfl⟩
  obtain ⟨w3, hw3⟩ : ∃ w3, w3 = w2.alloc (.cells C 25) := ⟨_, rfl⟩
  have hB3 : Below w.heap.size w w3 := by rw [hw3]; exact (hb1.trans (hb2.mono hs1)).alloc (by omega) _
  have hc3 : w3.heap[w2.heap.size]? = some (.cells C 25 (0, 0)) := by rw [hw3]; exact Array.getElem?_push_size
  have hz3 : w3.heap.size = w2.heap.size + 1 := by rw [hw3]; simp
  rw [← hC, ← hw3]
  obtain ⟨r, hr⟩ : ∃ r, r = w2.heap.size := ⟨_, rfl⟩
  rw [← hr] at hc3 hz3 hs2
  rw [← hr]
  clear hr hb1 hb2 hc1 hw3
  have hm3 : w3.cell? ⟨2, 0, none⟩ = some (.int .i64 m) := by rw [hB3.cell (p := ⟨2, 0, none⟩) hms]; exact Hm.out
  refine (of_any b m w3 hm3).mono ?_
  rintro e w4 ⟨rfl, hb4⟩
  obtain ⟨y, hy⟩ : ∃ y, y = infOf b := ⟨_, rfl⟩
  obtain ⟨is, his⟩ : ∃ is, is = known b := ⟨_, rfl⟩
  rw [← hy, ← his]
  have Hy := Lib.hid (And.intro hy his); clear hy his
  have HC := Lib.hid hC; clear hC
  have hs4 := hb4.size
  unfold infv
  go_wp2_with fail
  obtain ⟨D, hD⟩ : ∃ C : Array Value, C = #[.string ⟨y.name.toArray⟩, .int .u64 (y.gas : Int), .int .i64 (y.inn : Int), .int .i64 (y.out : Int)] := ⟨_, rfl⟩
  rw [← hD]
  have HD := Lib.hid hD; clear hD
  obtain ⟨w5, hw5⟩ : ∃ w5, w5 = w4.alloc (.cells D 25) := ⟨_, rfl⟩
  have hB5 : Below w.heap.size w w5 := by rw [hw5]; exact (hB3.trans (hb4.mono (by omega))).alloc (by omega) _
  have hc5 : w5.heap[w4.heap.size]? = some (.cells D 25 (0, 0)) := by rw [hw5]; exact Array.getElem?_push_size
  have hc53 : w5.heap[r]? = some (.cells C 25 (0, 0)) := by rw [hw5, alloc_block (by omega), hb4.block _ (by omega)]; exact hc3
  have hz5 : w5.heap.size = w4.heap.size + 1 := by rw [hw5]; simp
  rw [← hw5]
  obtain ⟨r', hr⟩ : ∃ r, r = w4.heap.size := ⟨_, rfl⟩
  rw [← hr] at hc5 hz5 hs4
  rw [← hr]
  clear hr hb4 hw5 hc3 hB3
  have hm5 : w5.cell? ⟨2, 0, none⟩ = some (.int .i64 m) := by rw [hB5.cell (p := ⟨2, 0, none⟩) hms]; exact Hm.out
  refine (push_any (a : Int) w5 (by omega) (by omega)).mono ?_
  rintro e w8 ⟨rfl, rfl⟩
  obtain ⟨pn, hpn⟩ : ∃ pn, pn = pushN (a : Int) := ⟨_, rfl⟩
  obtain ⟨ip, hip⟩ : ∃ ip, ip = isPush (a : Int) := ⟨_, rfl⟩
  rw [← hpn, ← hip]
  have Hp := Lib.hid (And.intro hpn hip); clear hpn hip
  rw [HC.out] at hc53
  rw [HD.out] at hc5
  have z0 : w5.cell? ⟨r, 0, none⟩ = some (.string ⟨x.name.toArray⟩) := cell_of hc53 0
  have z1 : w5.cell? ⟨r, 1, none⟩ = some (.int .u64 (x.gas : Int)) := cell_of hc53 1
  have z2 : w5.cell? ⟨r, 2, none⟩ = some (.int .i64 (x.inn : Int)) := cell_of hc53 2
  have z3 : w5.cell? ⟨r, 3, none⟩ = some (.int .i64 (x.out : Int)) := cell_of hc53 3
  have y0 : w5.cell? ⟨r', 0, none⟩ = some (.string ⟨y.name.toArray⟩) := cell_of hc5 0
  have HB := Lib.hid hB5
  clear hB5 hc53 hc5
  by_cases hk : ok = true
  · obtain ⟨k1, k2, k3, k4⟩ := known_code ha (by rw [← Hx.out.2]; exact hk)
    have hkind := known_kind ha (by rw [← Hx.out.2]; exact hk)
    rw [← Hx.out.1] at k1 k2 k3 k4 hkind
    rw [← Hp.out.2] at hkind
    subst hk
    have Hkind := Lib.hid hkind; clear hkind
    have H12 := Lib.hid (And.intro k1 k2); clear k1 k2
    go_wp2_with fail
    refine (code_any _ m w5 hm5).mono ?_
    rintro e w6 ⟨rfl, hb6⟩
    rw [show ({ data := x.name.toArray } : ByteArray).data.toList = x.name from rfl, H12.out.1, H12.out.2]
    have v0 : w6.cell? ⟨r, 0, none⟩ = some (.string ⟨x.name.toArray⟩) := by rw [hb6.cell (p := ⟨r, 0, none⟩) (by simp; omega)]; exact z0
    have v1 : w6.cell? ⟨r, 1, none⟩ = some (.int .u64 (x.gas : Int)) := by rw [hb6.cell (p := ⟨r, 1, none⟩) (by simp; omega)]; exact z1
    have v2 : w6.cell? ⟨r, 2, none⟩ = some (.int .i64 (x.inn : Int)) := by rw [hb6.cell (p := ⟨r, 2, none⟩) (by simp; omega)]; exact z2
    have v3 : w6.cell? ⟨r, 3, none⟩ = some (.int .i64 (x.out : Int)) := by rw [hb6.cell (p := ⟨r, 3, none⟩) (by simp; omega)]; exact z3
    have u0 : w6.cell? ⟨r', 0, none⟩ = some (.string ⟨y.name.toArray⟩) := by rw [hb6.cell (p := ⟨r', 0, none⟩) (by simp; omega)]; exact y0
    have HB6 := Lib.hid (HB.out.trans (hb6.mono (by omega)))
    clear hb6 z0 z1 z2 z3 y0 hm5 hm3
    have hname : Hid (is = true → ((x.name == y.name) = true ↔ a = b)) := by
      intro hi
      have kb := Hy.out.2.symm.trans hi
      constructor
      · intro h
        have h' : x.name = y.name := by simpa using h
        rw [Hx.out.1, Hy.out.1] at h'
        exact names_apart ha hb Hx.out.2.symm kb h'
      · intro h
        subst h
        simp [Hx.out.1, Hy.out.1]
    have hcase : is = false ∨ (is = true ∧ x.name = y.name ∧ a = b) ∨ (is = true ∧ (x.name == y.name) = false ∧ ((a : Int) == (b : Int)) = false) := by
      cases hi : is
      · exact .inl rfl
      · by_cases hab : a = b
        · exact .inr (.inl ⟨rfl, by simpa using (hname.out hi).2 hab, hab⟩)
        · refine .inr (.inr ⟨rfl, ?_, by simp; omega⟩)
          rw [Bool.eq_false_iff]
          exact fun h => hab ((hname.out hi).1 h)
    clear hname
    rcases Hkind.out with ⟨rfl, j1, j2⟩ | ⟨rfl, j1, j2, j3, j4⟩ | ⟨rfl, j1, j2, j3, j4⟩ | ⟨rfl, j1, j2, j3, j4, j5⟩ | ⟨rfl, j1⟩
    all_goals clear Hkind Hm hms
    · have hp : 95 ≤ a ∧ a ≤ 127 ∧ pn = (a : Int) - 95 := by
        have h1 := Hp.out.2.symm
        unfold isPush at h1
        have h2 := of_decide_eq_true h1
        exact ⟨by omega, by omega, by rw [Hp.out.1, pushN_yes h2.1 h2.2]⟩
      obtain ⟨hp1, hp2, rfl⟩ := hp
      rw [j1] at v2
      rw [j2] at v3
      clear k3 k4 Hp
      rcases hcase with rfl | ⟨rfl, hq, rfl⟩ | ⟨rfl, hq, hab⟩
      all_goals
        (try rw [← hq] at u0)
        go_wp2_with fail
        go_ret
        first | exact ⟨rfl, HB6.out⟩ | exact ⟨retb (decide_eq_true (by omega)), HB6.out⟩
    · rw [show ((x.inn : Nat) : Int) = (a : Int) - 127 from by omega] at v2
      rw [show ((x.out : Nat) : Int) = (a : Int) - 126 from by omega] at v3
      clear k3 k4 Hp j3 j4
      rcases hcase with rfl | ⟨rfl, hq, rfl⟩ | ⟨rfl, hq, hab⟩
      all_goals
        (try rw [← hq] at u0)
        go_wp2_with fail
        go_ret
        first | exact ⟨rfl, HB6.out⟩ | exact ⟨retb (decide_eq_true (by omega)), HB6.out⟩
    · rw [show ((x.inn : Nat) : Int) = (a : Int) - 142 from by omega] at v2
      rw [show ((x.out : Nat) : Int) = (a : Int) - 142 from by omega] at v3
      clear k3 k4 Hp j3 j4
      rcases hcase with rfl | ⟨rfl, hq, rfl⟩ | ⟨rfl, hq, hab⟩
      all_goals
        (try rw [← hq] at u0)
        go_wp2_with fail
        go_ret
        first | exact ⟨rfl, HB6.out⟩ | exact ⟨retb (decide_eq_true (by omega)), HB6.out⟩
    · rw [show ((x.inn : Nat) : Int) = (a : Int) - 158 from by omega] at v2
      rw [show ((x.out : Nat) : Int) = 0 from by omega] at v3
      rw [show ((x.gas : Nat) : Int) = 375 from by omega] at v1
      clear k3 k4 Hp j3 j4 j5
      rcases hcase with rfl | ⟨rfl, hq, rfl⟩ | ⟨rfl, hq, hab⟩
      all_goals
        (try rw [← hq] at u0)
        go_wp2_with fail
        go_ret
        first | exact ⟨rfl, HB6.out⟩ | exact ⟨retb (decide_eq_true (by omega)), HB6.out⟩
    · rcases j1 with j1 | j1
      all_goals
        rcases hcase with rfl | ⟨rfl, hq, rfl⟩ | ⟨rfl, hq, hab⟩
        all_goals
          (try rw [← hq] at u0)
          go_wp2_with fail
          go_ret
          first | exact ⟨rfl, HB6.out⟩ | exact ⟨retb (decide_eq_true (by omega)), HB6.out⟩
  · have hk' : ok = false := by simpa using hk
    obtain ⟨k1, k2⟩ := known_no ha (by rw [← Hx.out.2]; exact hk')
    rw [← Hx.out.1] at k1
    rw [← Hp.out.2] at k2
    subst hk' k1 k2
    clear Hx Hy Hp HC HD hm3 hm5
    go_wp2_with fail
    go_ret
    exact ⟨rfl, HB.out⟩
end Go.Proofs.YtnachjhhbhhpoaaDoor
