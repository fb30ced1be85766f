/-
  Numbers of 256 bits out of four parts: sums, differences, order, part by part: plain facts, no Go.
-/
namespace Go.Proofs.YtbjkdnbmgoibiaaGreatDoor
/-- 2 to the 64th. -/
def q64 : Nat := 18446744073709551616
theorem q64_eq : q64 = 18446744073709551616 := rfl
theorem q64_pos : 0 < q64 := by rw [q64_eq]; omega
/-- A number out of its four parts, the highest first. -/
def num4 (a b c d : Nat) : Nat := a * 6277101735386680763835789423207666416102355444464034512896 + b * 340282366920938463463374607431768211456 + c * 18446744073709551616 + d
/-- 2 to the 256th. -/
def q256 : Nat := 115792089237316195423570985008687907853269984665640564039457584007913129639936
theorem num4_lt {a b c d : Nat} (ha : a < q64) (hb : b < q64) (hc : c < q64) (hd : d < q64) : num4 a b c d < q256 := by
  unfold num4 q256; simp only [q64_eq] at *; omega
theorem num4_inj {a b c d a' b' c' d' : Nat} (hb : b < q64) (hc : c < q64) (hd : d < q64) (hb' : b' < q64) (hc' : c' < q64) (hd' : d' < q64)
    (h : num4 a b c d = num4 a' b' c' d') : a = a' ∧ b = b' ∧ c = c' ∧ d = d' := by
  unfold num4 at h; simp only [q64_eq] at *
  have h1 : d = d' := by omega
  subst h1
  have h2 : c = c' := by omega
  subst h2
  have h3 : b = b' := by omega
  subst h3
  exact ⟨by omega, rfl, rfl, rfl⟩
theorem num4_ex {n : Nat} (h : n < q256) : ∃ a b c d, a < q64 ∧ b < q64 ∧ c < q64 ∧ d < q64 ∧ n = num4 a b c d := by
  refine ⟨n / q64 / q64 / q64, n / q64 / q64 % q64, n / q64 % q64, n % q64, ?_, Nat.mod_lt _ q64_pos, Nat.mod_lt _ q64_pos, Nat.mod_lt _ q64_pos, ?_⟩
  · rw [Nat.div_lt_iff_lt_mul q64_pos, Nat.div_lt_iff_lt_mul q64_pos, Nat.div_lt_iff_lt_mul q64_pos]; exact h
  · have e1 := Nat.div_add_mod n q64
    have e2 := Nat.div_add_mod (n / q64) q64
    have e3 := Nat.div_add_mod (n / q64 / q64) q64
    generalize n / q64 / q64 / q64 = a at *
    generalize n / q64 / q64 % q64 = b at *
    generalize n / q64 / q64 = x at *
    generalize n / q64 % q64 = c at *
    generalize n / q64 = y at *
    generalize n % q64 = d at *
    unfold num4; simp only [q64_eq] at *; omega
theorem mod_of {a m k r : Nat} (h : a = r + k * m) (hr : r < m) : a % m = r := by
  rw [h, Nat.add_mul_mod_self_right, Nat.mod_eq_of_lt hr]
theorem step_of (x m : Nat) (hm : 0 < m) : x = x % m + x / m * m ∧ x % m < m := ⟨by have := Nat.div_add_mod x m; rw [Nat.mul_comm] at this; omega, Nat.mod_lt _ hm⟩
/-- With a carry: the sum, part by part. -/
theorem add_parts {a b c d a' b' c' d' r0 r1 r2 r3 c1 c2 c3 : Nat}
    (h0 : r0 = (d + d') % q64) (k1 : c1 = (d + d') / q64)
    (h1 : r1 = (c + c' + c1) % q64) (k2 : c2 = (c + c' + c1) / q64)
    (h2 : r2 = (b + b' + c2) % q64) (k3 : c3 = (b + b' + c2) / q64)
    (h3 : r3 = (a + a' + c3) % q64) : num4 r3 r2 r1 r0 = (num4 a b c d + num4 a' b' c' d') % q256 := by
  have s0 := step_of (d + d') q64 q64_pos
  have s1 := step_of (c + c' + c1) q64 q64_pos
  have s2 := step_of (b + b' + c2) q64 q64_pos
  have s3 := step_of (a + a' + c3) q64 q64_pos
  rw [← h0, ← k1] at s0
  rw [← h1, ← k2] at s1
  rw [← h2, ← k3] at s2
  rw [← h3] at s3
  generalize (a + a' + c3) / q64 = c4 at s3
  clear h0 k1 h1 k2 h2 k3 h3
  refine (mod_of (k := c4) ?_ (num4_lt s3.2 s2.2 s1.2 s0.2)).symm
  obtain ⟨s0, _⟩ := s0; obtain ⟨s1, _⟩ := s1; obtain ⟨s2, _⟩ := s2; obtain ⟨s3, _⟩ := s3
  unfold num4 q256; simp only [q64_eq] at *
  omega
/-- A part less another and a borrow. -/
theorem sub_step {x y c : Nat} (hx : x < q64) (hy : y < q64) (hc : c ≤ 1) : ∃ k, (x + q64 - y - c) % q64 + y + c = x + k * q64 ∧ (x + q64 - y - c) % q64 < q64 ∧ k = (if x < y + c then 1 else 0) ∧ k ≤ 1 := by
  by_cases h : x < y + c
  · refine ⟨1, ?_, Nat.mod_lt _ q64_pos, by rw [if_pos h], Nat.le_refl _⟩
    by_cases h2 : x + q64 - y - c < q64
    · rw [Nat.mod_eq_of_lt h2]; simp only [q64_eq] at *; omega
    · simp only [q64_eq] at *; omega
  · refine ⟨0, ?_, Nat.mod_lt _ q64_pos, by rw [if_neg h], Nat.zero_le _⟩
    rw [show x + q64 - y - c = (x - y - c) + 1 * q64 from by simp only [q64_eq] at *; omega, Nat.add_mul_mod_self_right, Nat.mod_eq_of_lt (by omega)]; omega
theorem sub_parts {a b c d a' b' c' d' r0 r1 r2 r3 c1 c2 c3 c4 : Nat} (ha : a < q64) (hb : b < q64) (hc : c < q64) (hd : d < q64) (ha' : a' < q64) (hb' : b' < q64) (hc' : c' < q64) (hd' : d' < q64)
    (h0 : r0 = (d + q64 - d' - 0) % q64) (k1 : c1 = if d < d' + 0 then 1 else 0)
    (h1 : r1 = (c + q64 - c' - c1) % q64) (k2 : c2 = if c < c' + c1 then 1 else 0)
    (h2 : r2 = (b + q64 - b' - c2) % q64) (k3 : c3 = if b < b' + c2 then 1 else 0)
    (h3 : r3 = (a + q64 - a' - c3) % q64) (k4 : c4 = if a < a' + c3 then 1 else 0) :
    num4 r3 r2 r1 r0 = (num4 a b c d + q256 - num4 a' b' c' d') % q256 ∧ c4 = (if num4 a b c d < num4 a' b' c' d' then 1 else 0) := by
  obtain ⟨d0, s0, t0, e0, u0⟩ := sub_step hd hd' (Nat.zero_le 1)
  rw [← k1] at e0; rw [e0] at s0 u0; clear e0 d0; rw [← h0] at s0 t0
  obtain ⟨d1, s1, t1, e1, u1⟩ := sub_step hc hc' u0
  rw [← k2] at e1; rw [e1] at s1 u1; clear e1 d1; rw [← h1] at s1 t1
  obtain ⟨d2, s2, t2, e2, u2⟩ := sub_step hb hb' u1
  rw [← k3] at e2; rw [e2] at s2 u2; clear e2 d2; rw [← h2] at s2 t2
  obtain ⟨d3, s3, t3, e3, u3⟩ := sub_step ha ha' u2
  rw [← k4] at e3; rw [e3] at s3 u3; clear e3 d3; rw [← h3] at s3 t3
  clear h0 k1 h1 k2 h2 k3 h3 k4
  have hX := num4_lt ha hb hc hd
  have hY := num4_lt ha' hb' hc' hd'
  have hR := num4_lt t3 t2 t1 t0
  clear ha hb hc hd ha' hb' hc' hd' t0 t1 t2 t3 u0 u1 u2
  have key : num4 r3 r2 r1 r0 + num4 a' b' c' d' = num4 a b c d + c4 * q256 := by
    clear hX hY hR u3
    unfold num4 q256; simp only [q64_eq] at *; omega
  clear s0 s1 s2 s3
  generalize num4 r3 r2 r1 r0 = R at *
  generalize num4 a b c d = X at *
  generalize num4 a' b' c' d' = Y at *
  rcases Nat.lt_or_ge X Y with h | h
  · rw [if_pos h]
    have : c4 = 1 := by
      rcases Nat.lt_or_ge 0 c4 with h' | h'
      · omega
      · have : c4 = 0 := by omega
        subst this; omega
    subst this
    exact ⟨by rw [Nat.mod_eq_of_lt (by omega)]; omega, rfl⟩
  · rw [if_neg (by omega)]
    have : c4 = 0 := by
      rcases Nat.lt_or_ge 0 c4 with h' | h'
      · have : c4 = 1 := by omega
        subst this; omega
      · omega
    subst this
    exact ⟨by rw [show X + q256 - Y = (X - Y) + 1 * q256 from by omega, Nat.add_mul_mod_self_right, Nat.mod_eq_of_lt (by omega)]; omega, rfl⟩
/-- A word: its four parts, the highest first. -/
structure Wd where
  a : Nat
  b : Nat
  c : Nat
  d : Nat
  deriving DecidableEq
structure Wd.Ok (x : Wd) : Prop where
  a : x.a < q64
  b : x.b < q64
  c : x.c < q64
  d : x.d < q64
def Wd.num (x : Wd) : Nat := num4 x.a x.b x.c x.d
theorem Wd.Ok.lt {x : Wd} (h : x.Ok) : x.num < q256 := num4_lt h.a h.b h.c h.d
theorem Wd.Ok.inj {x y : Wd} (h : x.Ok) (k : y.Ok) (e : x.num = y.num) : x = y := by
  obtain ⟨h1, h2, h3, h4⟩ := num4_inj h.b h.c h.d k.b k.c k.d e
  cases x; cases y; simp_all
/-- No word: zero. -/
def Wd.zero : Wd := ⟨0, 0, 0, 0⟩
theorem Wd.zero_ok : Wd.zero.Ok := ⟨q64_pos, q64_pos, q64_pos, q64_pos⟩
/-- A sum's part, and what is carried. -/
def addS (x y c : Nat) : Nat := (x + y + c) % q64
def addC (x y c : Nat) : Nat := (x + y + c) / q64
/-- A difference's part, and what is borrowed. -/
def subS (x y c : Nat) : Nat := (x + q64 - y - c) % q64
def subC (x y c : Nat) : Nat := if x < y + c then 1 else 0
/-- Part by part, the lowest first, with what is carried. -/
def thru (S C : Nat → Nat → Nat → Nat) (x y : Wd) : Wd :=
  ⟨S x.a y.a (C x.b y.b (C x.c y.c (C x.d y.d 0))), S x.b y.b (C x.c y.c (C x.d y.d 0)), S x.c y.c (C x.d y.d 0), S x.d y.d 0⟩
def Wd.add (x y : Wd) : Wd := thru addS addC x y
def Wd.sub (x y : Wd) : Wd := thru subS subC x y
def Wd.less (x y : Wd) : Bool := subC x.a y.a (subC x.b y.b (subC x.c y.c (subC x.d y.d 0))) == 1
/-- A part by its number, the lowest is 0. -/
def Wd.part (x : Wd) : Nat → Nat
  | 0 => x.d
  | 1 => x.c
  | 2 => x.b
  | _ => x.a
/-- What is carried to a part. -/
def carryTo (C : Nat → Nat → Nat → Nat) (x y : Wd) : Nat → Nat
  | 0 => 0
  | n + 1 => C (x.part n) (y.part n) (carryTo C x y n)
theorem Wd.less_carry (x y : Wd) : x.less y = (carryTo subC x y 4 == 1) := rfl
theorem carryTo_le {C : Nat → Nat → Nat → Nat} (hC : ∀ x y c, x < q64 → y < q64 → c ≤ 1 → C x y c ≤ 1) {x y : Wd} (hx : x.Ok) (hy : y.Ok) : ∀ n, carryTo C x y n ≤ 1
  | 0 => Nat.zero_le _
  | n + 1 => by
    have px : x.part n < q64 := by unfold Wd.part; split <;> first | exact hx.d | exact hx.c | exact hx.b | exact hx.a
    have py : y.part n < q64 := by unfold Wd.part; split <;> first | exact hy.d | exact hy.c | exact hy.b | exact hy.a
    exact hC _ _ _ px py (carryTo_le hC hx hy n)
theorem thru_part (S C : Nat → Nat → Nat → Nat) (x y : Wd) (n : Nat) (h : n < 4) : (thru S C x y).part n = S (x.part n) (y.part n) (carryTo C x y n) := by
  match n, h with
  | 0, _ => rfl
  | 1, _ => rfl
  | 2, _ => rfl
  | 3, _ => rfl
/-- The first k parts out of z, the others out of x. -/
def mix (x z : Wd) (k : Nat) : Wd := ⟨if 3 < k then z.a else x.a, if 2 < k then z.b else x.b, if 1 < k then z.c else x.c, if 0 < k then z.d else x.d⟩
theorem mix_zero (x z : Wd) : mix x z 0 = x := rfl
theorem mix_four (x z : Wd) : mix x z 4 = z := rfl
theorem mix_part (x z : Wd) (k : Nat) (h : k < 4) : (mix x z k).part k = x.part k := by
  match k, h with
  | 0, _ => rfl
  | 1, _ => rfl
  | 2, _ => rfl
  | 3, _ => rfl
theorem addS_lt (x y c : Nat) : addS x y c < q64 := Nat.mod_lt _ q64_pos
theorem subS_lt (x y c : Nat) : subS x y c < q64 := Nat.mod_lt _ q64_pos
theorem subC_le (x y c : Nat) : subC x y c ≤ 1 := by unfold subC; split <;> omega
theorem addC_le {x y c : Nat} (hx : x < q64) (hy : y < q64) (hc : c ≤ 1) : addC x y c ≤ 1 := by
  have : addC x y c < 2 := by
    unfold addC
    rw [Nat.div_lt_iff_lt_mul q64_pos]; omega
  omega
theorem Wd.add_ok (x y : Wd) : (x.add y).Ok := ⟨addS_lt _ _ _, addS_lt _ _ _, addS_lt _ _ _, addS_lt _ _ _⟩
theorem Wd.sub_ok (x y : Wd) : (x.sub y).Ok := ⟨subS_lt _ _ _, subS_lt _ _ _, subS_lt _ _ _, subS_lt _ _ _⟩
theorem Wd.add_num (x y : Wd) : (x.add y).num = (x.num + y.num) % q256 :=
  add_parts (a := x.a) (b := x.b) (c := x.c) (d := x.d) (a' := y.a) (b' := y.b) (c' := y.c) (d' := y.d) rfl rfl rfl rfl rfl rfl rfl
theorem Wd.sub_both {x y : Wd} (h : x.Ok) (k : y.Ok) : (x.sub y).num = (x.num + q256 - y.num) % q256 ∧ subC x.a y.a (subC x.b y.b (subC x.c y.c (subC x.d y.d 0))) = if x.num < y.num then 1 else 0 :=
  sub_parts h.a h.b h.c h.d k.a k.b k.c k.d rfl rfl rfl rfl rfl rfl rfl rfl
theorem Wd.less_iff {x y : Wd} (h : x.Ok) (k : y.Ok) : x.less y = decide (x.num < y.num) := by
  unfold Wd.less
  rw [(Wd.sub_both h k).2]
  split <;> simp_all
theorem Wd.sub_add {x y : Wd} (h : x.Ok) (k : y.Ok) : (x.sub y).add y = x := by
  refine (Wd.add_ok _ _).inj h ?_
  rw [Wd.add_num, (Wd.sub_both h k).1]
  have h1 := h.lt
  have h2 := k.lt
  rw [Nat.mod_add_mod, show x.num + q256 - y.num + y.num = x.num + 1 * q256 from by omega, Nat.add_mul_mod_self_right, Nat.mod_eq_of_lt h1]
theorem Wd.add_sub {x y : Wd} (h : x.Ok) (k : y.Ok) : (x.add y).sub y = x := by
  refine (Wd.sub_ok _ _).inj h ?_
  rw [(Wd.sub_both (Wd.add_ok _ _) k).1, Wd.add_num]
  have h1 := h.lt
  have h2 := k.lt
  rcases Nat.lt_or_ge (x.num + y.num) q256 with g | g
  · rw [Nat.mod_eq_of_lt g, show x.num + y.num + q256 - y.num = x.num + 1 * q256 from by omega, Nat.add_mul_mod_self_right, Nat.mod_eq_of_lt h1]
  · have e : (x.num + y.num) % q256 = x.num + y.num - q256 := by
      rw [show x.num + y.num = (x.num + y.num - q256) + 1 * q256 from by omega, Nat.add_mul_mod_self_right, Nat.mod_eq_of_lt (by omega)]; omega
    rw [e, show x.num + y.num - q256 + q256 - y.num = x.num from by omega, Nat.mod_eq_of_lt h1]
end Go.Proofs.YtbjkdnbmgoibiaaGreatDoor
