import Derived.Laws.BitsAllLaws
import Derived.Laws.Bits128
import Derived.Laws.Bits64b
import Derived.RowKit
/- Plain mathematics: how many of the first bits are set ('cnt'), and that the library's OnesCount64 counts them. -/
namespace Go.Proofs.Ythgnapngjmgkcaa
open Go.RowKit

/-- how many j < n have f j -/
def cnt (f : Nat → Bool) : Nat → Nat
  | 0 => 0
  | n + 1 => cnt f n + (if f n then 1 else 0)

theorem cnt_add (f : Nat → Bool) (m n : Nat) : cnt f (m + n) = cnt f m + cnt (fun j => f (m + j)) n := by
  induction n with
  | zero => rfl
  | succ n ih => rw [← Nat.add_assoc]; simp only [cnt, ih]; omega

theorem cnt_congr {f g : Nat → Bool} (n : Nat) (h : ∀ j, j < n → f j = g j) : cnt f n = cnt g n := by
  induction n with
  | zero => rfl
  | succ n ih => simp only [cnt]; rw [ih (fun j hj => h j (by omega)), h n (by omega)]

theorem cnt_le (f : Nat → Bool) (n : Nat) : cnt f n ≤ n := by
  induction n with
  | zero => exact Nat.le_refl _
  | succ n ih => simp only [cnt]; split <;> omega

theorem cnt_false {f : Nat → Bool} (n : Nat) (h : ∀ j, j < n → f j = false) : cnt f n = 0 := by
  induction n with
  | zero => rfl
  | succ n ih => simp only [cnt]; rw [ih (fun j hj => h j (by omega)), h n (by omega)]; simp

theorem cnt_mono (f : Nat → Bool) {m n : Nat} (h : m ≤ n) : cnt f m ≤ cnt f n := by
  obtain ⟨d, rfl⟩ := Nat.exists_eq_add_of_le h
  rw [cnt_add]; omega

theorem cnt_not (f : Nat → Bool) (n : Nat) : cnt (fun j => !f j) n = n - cnt f n := by
  induction n with
  | zero => rfl
  | succ n ih =>
    have := cnt_le f n
    simp only [cnt, ih]
    by_cases h : f n = true
    · rw [if_pos h, if_neg (by simp [h])]; omega
    · rw [if_neg h, if_pos (by simpa using h)]; omega

/-- the byte c, k times -/
def rep8 (c : Nat) : Nat → Nat
  | 0 => 0
  | k + 1 => 256 * rep8 c k + c

theorem rep8_succ (c k : Nat) : rep8 c (k + 1) = 256 * rep8 c k + c := rfl

theorem and_step (a b c d : Nat) (hb : b < 256) (hd : d < 256) : (256 * a + b) &&& (256 * c + d) = 256 * (a &&& c) + (b &&& d) := by
  apply Nat.eq_of_testBit_eq
  intro i
  have e : (256 : Nat) = 2 ^ 8 := rfl
  have h3 : b &&& d < 2 ^ 8 := Nat.lt_of_le_of_lt Nat.and_le_left hb
  rw [Nat.testBit_and, e, Nat.testBit_two_pow_mul_add _ hb, Nat.testBit_two_pow_mul_add _ hd, Nat.testBit_two_pow_mul_add _ h3]
  split <;> simp [Nat.testBit_and]

def g1 (l : Nat) : Nat := (l / 2 &&& 85) + (l &&& 85)
def g2 (l : Nat) : Nat := (l / 4 &&& 51) + (l &&& 51)
def g3 (l : Nat) : Nat := (l / 16 + l) &&& 15
def sw1 (k x : Nat) : Nat := (x / 2 &&& rep8 85 k) + (x &&& rep8 85 k)
def sw2 (k x : Nat) : Nat := (x / 4 &&& rep8 51 k) + (x &&& rep8 51 k)
def sw3 (k x : Nat) : Nat := (x / 16 + x) &&& rep8 15 k

theorem bytes_all (p : Nat → Bool) (h : (List.range 256).all p = true) (l : Nat) (hl : l < 256) : p l = true :=
  List.all_eq_true.1 h l (List.mem_range.2 hl)

theorem half_and (h l : Nat) (hl : l < 256) : (128 * (h % 2) + l / 2) &&& 85 = l / 2 &&& 85 := by
  have := bytes_all (fun l => decide ((128 + l / 2) &&& 85 = l / 2 &&& 85)) (by decide +kernel) l hl
  rcases Nat.mod_two_eq_zero_or_one h with e | e <;> rw [e]
  · simp
  · simpa using of_decide_eq_true this
theorem quarter_and (h l : Nat) (hl : l < 256) : (64 * (h % 4) + l / 4) &&& 51 = l / 4 &&& 51 := by
  have h1 := of_decide_eq_true (bytes_all (fun l => decide ((64 + l / 4) &&& 51 = l / 4 &&& 51)) (by decide +kernel) l hl)
  have h2 := of_decide_eq_true (bytes_all (fun l => decide ((128 + l / 4) &&& 51 = l / 4 &&& 51)) (by decide +kernel) l hl)
  have h3 := of_decide_eq_true (bytes_all (fun l => decide ((192 + l / 4) &&& 51 = l / 4 &&& 51)) (by decide +kernel) l hl)
  have : h % 4 = 0 ∨ h % 4 = 1 ∨ h % 4 = 2 ∨ h % 4 = 3 := by omega
  rcases this with e | e | e | e <;> rw [e]
  · simp
  · exact h1
  · exact h2
  · exact h3

theorem sw1_step (k h l : Nat) (hl : l < 256) : sw1 (k + 1) (256 * h + l) = 256 * sw1 k h + g1 l := by
  unfold sw1 g1
  rw [rep8_succ]
  have e : (256 * h + l) / 2 = 256 * (h / 2) + (128 * (h % 2) + l / 2) := by omega
  rw [e, and_step _ _ _ _ (by omega) (by omega), and_step _ _ _ _ hl (by omega), half_and h l hl]
  omega
theorem sw2_step (k h l : Nat) (hl : l < 256) : sw2 (k + 1) (256 * h + l) = 256 * sw2 k h + g2 l := by
  unfold sw2 g2
  rw [rep8_succ]
  have e : (256 * h + l) / 4 = 256 * (h / 4) + (64 * (h % 4) + l / 4) := by omega
  rw [e, and_step _ _ _ _ (by omega) (by omega), and_step _ _ _ _ hl (by omega), quarter_and h l hl]
  omega
theorem sw3_step (k h l : Nat) (hl : 16 * (h % 16) + l / 16 + l < 256) : sw3 (k + 1) (256 * h + l) = 256 * sw3 k h + g3 l := by
  unfold sw3 g3
  have e : (256 * h + l) / 16 + (256 * h + l) = 256 * (h / 16 + h) + (16 * (h % 16) + l / 16 + l) := by omega
  have em (n : Nat) : n &&& 15 = n % 16 := nat_mask4 n
  rw [e, rep8_succ, and_step _ _ _ _ hl (by omega), em, em]
  congr 1
  omega

/-- all of it, on k bytes -/
def sw (k x : Nat) : Nat := sw3 k (sw2 k (sw1 k x))

theorem g1_lt (l : Nat) (hl : l < 256) : g1 l < 256 := of_decide_eq_true (bytes_all (fun l => decide (g1 l < 256)) (by decide +kernel) l hl)
theorem g2_le (l : Nat) (hl : l < 256) : g2 (g1 l) ≤ 68 ∧ g2 (g1 l) % 16 ≤ 4 := of_decide_eq_true (bytes_all (fun l => decide (g2 (g1 l) ≤ 68 ∧ g2 (g1 l) % 16 ≤ 4)) (by decide +kernel) l hl)
def g3ok (l : Nat) : Bool := g3 (g2 (g1 l)) == cnt l.testBit 8
theorem g3_eq (l : Nat) (hl : l < 256) : g3 (g2 (g1 l)) = cnt l.testBit 8 := by
  have h := bytes_all g3ok (by decide +kernel) l hl
  exact eq_of_beq h

theorem sw21_low (k h : Nat) : sw2 k (sw1 k h) % 16 ≤ 4 := by
  cases k with
  | zero => simp [sw2, rep8]
  | succ k =>
    have e : h = 256 * (h / 256) + h % 256 := by omega
    have hl : h % 256 < 256 := by omega
    rw [e, sw1_step _ _ _ hl, sw2_step _ _ _ (g1_lt _ hl)]
    have := (g2_le _ hl).2
    omega

theorem sw_step (k h l : Nat) (hl : l < 256) : sw (k + 1) (256 * h + l) = 256 * sw k h + cnt l.testBit 8 := by
  unfold sw
  have h1 := sw21_low k h
  have h2 := g2_le l hl
  rw [sw1_step _ _ _ hl, sw2_step _ _ _ (g1_lt _ hl), sw3_step _ _ _ (by omega), g3_eq _ hl]

theorem four_small {a b c d : Nat} (ha : a ≤ 8) (hb : b ≤ 8) (hc : c ≤ 8) (hd : d ≤ 8) : a + b + (c + d) < 256 := by omega
theorem div16 (a b c p q : Nat) (h1 : a = 256 * b + p) (h2 : b = 256 * c + q) (hp : p < 256) (hq : q < 256) : a / 65536 = c := by omega
theorem div32 (a b c d e p q r s : Nat) (h1 : a = 256 * b + p) (h2 : b = 256 * c + q) (h3 : c = 256 * d + r) (h4 : d = 256 * e + s) (hp : p < 256) (hq : q < 256) (hr : r < 256) (hs : s < 256) : a / 4294967296 = e := by
  have h5 : a / 256 = b := by rw [h1, Nat.mul_add_div (by omega), Nat.div_eq_of_lt hp, Nat.add_zero]
  have h6 : b / 256 = c := by rw [h2, Nat.mul_add_div (by omega), Nat.div_eq_of_lt hq, Nat.add_zero]
  have h7 : c / 256 = d := by rw [h3, Nat.mul_add_div (by omega), Nat.div_eq_of_lt hr, Nat.add_zero]
  have h8 : d / 256 = e := by rw [h4, Nat.mul_add_div (by omega), Nat.div_eq_of_lt hs, Nat.add_zero]
  rw [← h8, ← h7, ← h6, ← h5, Nat.div_div_eq_div_mul, Nat.div_div_eq_div_mul, Nat.div_div_eq_div_mul]
theorem add_digit (a b c d p q : Nat) (h1 : a = 256 * b + p) (h2 : c = 256 * d + q) : a + c = 256 * (b + d) + (p + q) := by omega

/-- the sum of the bytes of a sum of bytes -/
theorem sum_bytes (p0 p1 p2 p3 p4 p5 p6 p7 : Nat) (h0 : p0 ≤ 8) (h1 : p1 ≤ 8) (h2 : p2 ≤ 8) (h3 : p3 ≤ 8) (h4 : p4 ≤ 8) (h5 : p5 ≤ 8) (h6 : p6 ≤ 8) (h7 : p7 ≤ 8)
    (T t1 t2 t3 A1 A2 A3 A4 A5 A6 : Nat) (hT : T = 256 * A1 + p0) (a1 : A1 = 256 * A2 + p1) (a2 : A2 = 256 * A3 + p2) (a3 : A3 = 256 * A4 + p3) (a4 : A4 = 256 * A5 + p4) (a5 : A5 = 256 * A6 + p5) (a6 : A6 = 256 * p7 + p6)
    (e1 : t1 = T + T / 256) (e2 : t2 = t1 + t1 / 65536) (e3 : t3 = t2 + t2 / 4294967296) : t3 % 128 = p0 + p1 + p2 + p3 + p4 + p5 + p6 + p7 := by
  have a7 : p7 = 256 * 0 + p7 := by rw [Nat.mul_zero, Nat.zero_add]
  have d1 : T / 256 = A1 := by rw [hT, Nat.mul_add_div (by decide), Nat.div_eq_of_lt (Nat.lt_of_le_of_lt h0 (by decide)), Nat.add_zero]
  rw [d1] at e1
  have b0 := add_digit _ _ _ _ _ _ hT a1
  have b1 := add_digit _ _ _ _ _ _ a1 a2
  have b2 := add_digit _ _ _ _ _ _ a2 a3
  have b3 := add_digit _ _ _ _ _ _ a3 a4
  have b4 := add_digit _ _ _ _ _ _ a4 a5
  have b5 := add_digit _ _ _ _ _ _ a5 a6
  have b6 := add_digit _ _ _ _ _ _ a6 a7
  rw [← e1] at b0
  have d2 := div16 _ _ _ _ _ b0 b1 (Nat.lt_of_le_of_lt (Nat.add_le_add h0 h1) (by decide)) (Nat.lt_of_le_of_lt (Nat.add_le_add h1 h2) (by decide))
  rw [d2] at e2
  have c0 := add_digit _ _ _ _ _ _ b0 b2
  have c1 := add_digit _ _ _ _ _ _ b1 b3
  have c2 := add_digit _ _ _ _ _ _ b2 b4
  have c3 := add_digit _ _ _ _ _ _ b3 b5
  have c4 := add_digit _ _ _ _ _ _ b4 b6
  rw [← e2] at c0
  have d3 := div32 _ _ _ _ _ _ _ _ _ c0 c1 c2 c3 (four_small h0 h1 h2 h3) (four_small h1 h2 h3 h4) (four_small h2 h3 h4 h5) (four_small h3 h4 h5 h6)
  rw [d3] at e3
  have f0 := add_digit _ _ _ _ _ _ c0 c4
  rw [← e3] at f0
  rw [f0]
  clear hT a1 a2 a3 a4 a5 a6 e1 e2 e3 a7 d1 b0 b1 b2 b3 b4 b5 b6 d2 c0 c1 c2 c3 c4 d3 f0
  omega

theorem cnt_byte (x i : Nat) : cnt (fun j => x.testBit (8 * i + j)) 8 = cnt (x / 256 ^ i % 256).testBit 8 := by
  apply cnt_congr
  intro j hj
  have e : (256 : Nat) = 2 ^ 8 := rfl
  rw [e, ← Nat.pow_mul, Nat.testBit_mod_two_pow, Nat.testBit_div_two_pow, Nat.add_comm]
  simp [hj]

theorem cnt64 (x : Nat) : cnt x.testBit 64 = cnt (x / 256 ^ 0 % 256).testBit 8 + cnt (x / 256 ^ 1 % 256).testBit 8 + cnt (x / 256 ^ 2 % 256).testBit 8 + cnt (x / 256 ^ 3 % 256).testBit 8 +
    cnt (x / 256 ^ 4 % 256).testBit 8 + cnt (x / 256 ^ 5 % 256).testBit 8 + cnt (x / 256 ^ 6 % 256).testBit 8 + cnt (x / 256 ^ 7 % 256).testBit 8 := by
  have h := fun i => cnt_byte x i
  rw [← h, ← h, ← h, ← h, ← h, ← h, ← h, ← h]
  rw [show 64 = 8 + 56 from rfl, cnt_add, show 56 = 8 + 48 from rfl, cnt_add, show 48 = 8 + 40 from rfl, cnt_add, show 40 = 8 + 32 from rfl, cnt_add, show 32 = 8 + 24 from rfl, cnt_add, show 24 = 8 + 16 from rfl, cnt_add, show 16 = 8 + 8 from rfl, cnt_add]
  simp only [Nat.mul_zero, Nat.zero_add, ← Nat.add_assoc]

theorem sw_cnt (x : Nat) (t1 t2 t3 : Nat) (e1 : t1 = sw 8 x + sw 8 x / 256) (e2 : t2 = t1 + t1 / 65536) (e3 : t3 = t2 + t2 / 4294967296) :
    t3 % 128 = cnt x.testBit 64 := by
  have step (k y : Nat) : sw (k + 1) y = 256 * sw k (y / 256) + cnt (y % 256).testBit 8 := by
    have e : y = 256 * (y / 256) + y % 256 := by omega
    have := sw_step k (y / 256) (y % 256) (by omega)
    rwa [← e] at this
  have d (i : Nat) : x / 256 ^ i / 256 = x / 256 ^ (i + 1) := by rw [Nat.div_div_eq_div_mul, ← Nat.pow_succ]
  have e1' : x / 256 = x / 256 ^ 1 := by simp
  have s7 := step 7 x
  have s6 := step 6 (x / 256 ^ 1)
  have s5 := step 5 (x / 256 ^ 2)
  have s4 := step 4 (x / 256 ^ 3)
  have s3 := step 3 (x / 256 ^ 4)
  have s2 := step 2 (x / 256 ^ 5)
  have s1 := step 1 (x / 256 ^ 6)
  rw [e1'] at s7
  rw [d] at s6 s5 s4 s3 s2 s1
  have hz : ∀ y, sw 0 y = 0 := fun y => by simp [sw, sw3, rep8]
  have s0 : sw 1 (x / 256 ^ 7) = cnt (x / 256 ^ 7 % 256).testBit 8 := by
    have h := step 0 (x / 256 ^ 7)
    rw [hz, Nat.mul_zero, Nat.zero_add (cnt _ _)] at h
    exact h
  rw [s0] at s1
  have d0 : x / 256 ^ 0 % 256 = x % 256 := by simp
  rw [cnt64, d0]
  exact sum_bytes _ _ _ _ _ _ _ _ (cnt_le _ _) (cnt_le _ _) (cnt_le _ _) (cnt_le _ _) (cnt_le _ _) (cnt_le _ _) (cnt_le _ _) (cnt_le _ _) _ _ _ _ _ _ _ _ _ _ s7 s6 s5 s4 s3 s2 s1 e1 e2 e3

/-! what the walk of OnesCount64 comes to -/
def oc1 (x : Int) : Int := IntKind.u64.wrap (bits .and .u64 (x / 2) 6148914691236517205 + bits .and .u64 x 6148914691236517205)
def oc2 (x : Int) : Int := IntKind.u64.wrap (bits .and .u64 (x / 4) 3689348814741910323 + bits .and .u64 x 3689348814741910323)
def oc3 (x : Int) : Int := bits .and .u64 (IntKind.u64.wrap (x / 16 + x)) 1085102592571150095
def oc4 (x : Int) : Int := IntKind.u64.wrap (x + x / 256)
def oc5 (x : Int) : Int := IntKind.u64.wrap (x + x / 65536)
def oc6 (x : Int) : Int := IntKind.u64.wrap (x + x / 4294967296)
def oc7 (x : Int) : Int := bits .and .i64 (wrap64 x) 127

theorem wrap_small (a : Nat) (h : a < 18446744073709551616) : IntKind.u64.wrap (a : Int) = a := by rw [IntKind.wrap_u64]; omega
theorem rep_85 : rep8 85 8 = 6148914691236517205 := rfl
theorem rep_51 : rep8 51 8 = 3689348814741910323 := rfl
theorem rep_15 : rep8 15 8 = 1085102592571150095 := rfl

theorem oc1_eq (x : Nat) (hx : x < 18446744073709551616) : oc1 x = (sw1 8 x : Nat) ∧ sw1 8 x ≤ 12297829382473034410 := by
  have e : (x : Int) / 2 = ((x / 2 : Nat) : Int) := by omega
  have h1 := Nat.and_le_right (n := x / 2) (m := 6148914691236517205)
  have h2 := Nat.and_le_right (n := x) (m := 6148914691236517205)
  unfold oc1 sw1
  rw [rep_85, e, show (6148914691236517205 : Int) = ((6148914691236517205 : Nat) : Int) from rfl, u64_and_nat _ _ (by omega) (by omega), u64_and_nat _ _ hx (by omega), ← Int.natCast_add, wrap_small _ (by omega)]
  exact ⟨rfl, by omega⟩
theorem oc2_eq (x : Nat) (hx : x < 18446744073709551616) : oc2 x = (sw2 8 x : Nat) ∧ sw2 8 x ≤ 7378697629483820646 := by
  have e : (x : Int) / 4 = ((x / 4 : Nat) : Int) := by omega
  have h1 := Nat.and_le_right (n := x / 4) (m := 3689348814741910323)
  have h2 := Nat.and_le_right (n := x) (m := 3689348814741910323)
  unfold oc2 sw2
  rw [rep_51, e, show (3689348814741910323 : Int) = ((3689348814741910323 : Nat) : Int) from rfl, u64_and_nat _ _ (by omega) (by omega), u64_and_nat _ _ hx (by omega), ← Int.natCast_add, wrap_small _ (by omega)]
  exact ⟨rfl, by omega⟩
theorem oc3_eq (x : Nat) (hx : x ≤ 7378697629483820646) : oc3 x = (sw3 8 x : Nat) ∧ sw3 8 x ≤ 1085102592571150095 := by
  have e : (x : Int) / 16 = ((x / 16 : Nat) : Int) := by omega
  have h2 := Nat.and_le_right (n := x / 16 + x) (m := 1085102592571150095)
  unfold oc3 sw3
  rw [rep_15, e, ← Int.natCast_add, wrap_small _ (by omega), show (1085102592571150095 : Int) = ((1085102592571150095 : Nat) : Int) from rfl, u64_and_nat _ _ (by omega) (by omega)]
  exact ⟨rfl, by omega⟩
theorem add_shift (x d : Nat) (hd : 256 ≤ d) (hx : x ≤ 2000000000000000000) : IntKind.u64.wrap ((x : Int) + (x : Int) / (d : Int)) = ((x + x / d : Nat) : Int) ∧ x + x / d ≤ x + x / 256 := by
  have h := Nat.div_le_div_left (a := x) hd (by omega)
  rw [← Int.natCast_ediv, ← Int.natCast_add, wrap_small _ (by omega)]
  exact ⟨rfl, by omega⟩

theorem oc4_eq (x : Nat) (hx : x ≤ 2000000000000000000) : oc4 x = ((x + x / 256 : Nat) : Int) ∧ x + x / 256 ≤ x + x / 256 := add_shift x 256 (by decide) hx
theorem oc5_eq (x : Nat) (hx : x ≤ 2000000000000000000) : oc5 x = ((x + x / 65536 : Nat) : Int) ∧ x + x / 65536 ≤ x + x / 256 := add_shift x 65536 (by decide) hx
theorem oc6_eq (x : Nat) (hx : x ≤ 2000000000000000000) : oc6 x = ((x + x / 4294967296 : Nat) : Int) ∧ x + x / 4294967296 ≤ x + x / 256 := add_shift x 4294967296 (by decide) hx
theorem oc7_eq (x : Nat) (hx : x ≤ 4000000000000000000) : oc7 x = ((x % 128 : Nat) : Int) := by
  unfold oc7 wrap64
  rw [i64_and127]
  omega

theorem oc_cnt (x : Nat) (hx : x < 18446744073709551616) : oc7 (oc6 (oc5 (oc4 (oc3 (oc2 (oc1 x)))))) = (cnt x.testBit 64 : Nat) := by
  obtain ⟨e1, b1⟩ := oc1_eq x hx
  obtain ⟨e2, b2⟩ := oc2_eq (sw1 8 x) (Nat.lt_of_le_of_lt b1 (by decide))
  obtain ⟨e3, b3⟩ := oc3_eq (sw2 8 (sw1 8 x)) b2
  have hT : sw3 8 (sw2 8 (sw1 8 x)) = sw 8 x := rfl
  rw [e1, e2, e3]
  rw [hT] at b3 ⊢
  have h := fun t1 t2 t3 => sw_cnt x t1 t2 t3
  generalize sw 8 x = T at h b3 ⊢
  clear e1 b1 e2 b2 e3 hT
  rw [(oc4_eq T (by omega)).1]
  have k1 := h _ _ _ rfl rfl rfl
  generalize ht1 : T + T / 256 = t1 at k1 ⊢
  have c1 : t1 ≤ 1090000000000000000 := by omega
  clear ht1 h
  obtain ⟨e5, b5⟩ := oc5_eq t1 (by omega)
  rw [e5]
  generalize ht2 : t1 + t1 / 65536 = t2 at k1 b5 ⊢
  have c2 : t2 ≤ 1100000000000000000 := by omega
  clear ht2 e5 b5
  obtain ⟨e6, b6⟩ := oc6_eq t2 (by omega)
  rw [e6]
  generalize ht3 : t2 + t2 / 4294967296 = t3 at k1 b6 ⊢
  have c3 : t3 ≤ 1200000000000000000 := by omega
  rw [oc7_eq t3 (by omega), k1]

/-! '&' and '|' on int, what is small and not negative -/
theorem i64_small (n : Nat) (h : n < 9223372036854775808) : IntKind.i64.wrap (n : Int) = (n : Int) := by
  rw [IntKind.wrap_i64]
  omega
theorem i64_and (a b : Nat) (ha : a < 9223372036854775808) (hb : b < 9223372036854775808) : bits .and .i64 (a : Int) (b : Int) = ((a &&& b : Nat) : Int) := by
  have hx := Nat.and_le_left (n := a) (m := b)
  show IntKind.i64.wrap ((BitVec.ofInt 64 (a : Int) &&& BitVec.ofInt 64 (b : Int)).toNat : Int) = _
  rw [BitVec.toNat_and, ofInt_u64 a (by omega), ofInt_u64 b (by omega), i64_small _ (by omega)]
theorem i64_or (a b : Nat) (ha : a < 9223372036854775808) (hb : b < 9223372036854775808) : bits .or .i64 (a : Int) (b : Int) = ((a ||| b : Nat) : Int) := by
  have hx : a ||| b < 2 ^ 63 := Nat.or_lt_two_pow (by omega) (by omega)
  show IntKind.i64.wrap ((BitVec.ofInt 64 (a : Int) ||| BitVec.ofInt 64 (b : Int)).toNat : Int) = _
  rw [BitVec.toNat_or, ofInt_u64 a (by omega), ofInt_u64 b (by omega), i64_small _ (by omega)]
theorem or_one (a : Nat) (ha : a < 4611686018427387904) : bits .or .i64 ((2 * a : Nat) : Int) 1 = ((2 * a + 1 : Nat) : Int) := by
  have h := i64_or (2 * a) 1 (by omega) (by omega)
  rw [nat_join 1 (2 * a) 1 (by omega) (by decide)] at h
  exact h
theorem bit_one (a r : Nat) (ha : a < 9223372036854775808) : (bits .and .i64 ((a : Int) / 2 ^ r) 1 == 1) = a.testBit r := by
  have hd := Nat.div_le_self a (2 ^ r)
  have e1 : (a : Int) / 2 ^ r = ((a / 2 ^ r : Nat) : Int) := by simp
  have h := i64_and (a / 2 ^ r) 1 (by omega) (by omega)
  rw [e1]
  rw [nat_mask1] at h
  rw [show (1 : Int) = ((1 : Nat) : Int) from rfl, h, Nat.testBit_eq_decide_div_mod_eq]
  by_cases h : a / 2 ^ r % 2 = 1 <;> simp [h]
  omega

end Go.Proofs.Ythgnapngjmgkcaa
