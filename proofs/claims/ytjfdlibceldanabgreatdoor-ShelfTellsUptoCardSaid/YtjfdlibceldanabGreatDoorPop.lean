/- How many ones a number of 64 bits has, counted pair by pair, nibble by nibble, byte by byte: plain numbers, no program in sight. -/
import Derived.WalkKit
import Derived.Laws.BitsAllLaws
import Derived.Laws.Bits128
namespace Go.Proofs.YtjfdlibceldanabGreatDoor.Pop

/-- The ones among the lowest n bits. -/
def pc : Nat → Nat → Nat
  | 0, _ => 0
  | n + 1, x => x % 2 + pc n (x / 2)

theorem pc_le : ∀ n x, pc n x ≤ n
  | 0, _ => Nat.le_refl _
  | n + 1, x => by have := pc_le n (x / 2); simp only [pc]; omega
theorem pc_add : ∀ n m x, pc (n + m) x = pc n x + pc m (x / 2 ^ n)
  | 0, m, x => by simp [pc]
  | n + 1, m, x => by
    rw [show n + 1 + m = n + m + 1 from by omega]
    simp only [pc]
    rw [pc_add n m (x / 2), Nat.div_div_eq_div_mul, Nat.pow_succ, Nat.mul_comm 2 (2 ^ n)]
    omega
theorem pc_mod : ∀ n x, pc n (x % 2 ^ n) = pc n x
  | 0, _ => rfl
  | n + 1, x => by
    simp only [pc]
    rw [Nat.pow_succ, Nat.mul_comm, Nat.mod_mul_right_mod, Nat.mod_mul_right_div_self, pc_mod n (x / 2)]
theorem pc_zero : ∀ n, pc n 0 = 0
  | 0 => rfl
  | n + 1 => by simp [pc, pc_zero n]

/-- A mask: the same byte in each of k bytes. -/
def rep (c : Nat) : Nat → Nat
  | 0 => 0
  | k + 1 => rep c k * 256 + c

theorem and_split (a b m n : Nat) (hb : b < 256) (hn : n < 256) : (a * 256 + b) &&& (m * 256 + n) = (a &&& m) * 256 + (b &&& n) := by
  have h0 : ∀ x y : Nat, x * 256 + y = 2 ^ 8 * x + y := fun x y => by rw [Nat.mul_comm]
  have hbn : b &&& n < 2 ^ 8 := Nat.and_lt_two_pow _ hn
  rw [h0, h0, h0]
  apply Nat.eq_of_testBit_eq
  intro i
  rw [Nat.testBit_and, Nat.testBit_two_pow_mul_add _ hb, Nat.testBit_two_pow_mul_add _ hn, Nat.testBit_two_pow_mul_add _ hbn]
  by_cases hi : i < 8
  · simp [hi]
  · simp [hi]

def s1 (k x : Nat) : Nat := (x / 2 &&& rep 85 k) + (x &&& rep 85 k)
def s2 (k x : Nat) : Nat := (x / 4 &&& rep 51 k) + (x &&& rep 51 k)
def s3 (k x : Nat) : Nat := (x / 16 + x) &&& rep 15 k

theorem byte1 : ∀ r, r < 2 → ∀ b, b < 256 → (r * 128 + b / 2) &&& 85 = b / 2 &&& 85 := by decide +kernel
theorem byte2 : ∀ r, r < 4 → ∀ b, b < 256 → (r * 64 + b / 4) &&& 51 = b / 4 &&& 51 := by decide +kernel
theorem byte1_lt : ∀ b, b < 256 → (b / 2 &&& 85) + (b &&& 85) < 256 := by decide +kernel
theorem byte12 : ∀ b, b < 256 → (((b / 2 &&& 85) + (b &&& 85)) / 4 &&& 51) + (((b / 2 &&& 85) + (b &&& 85)) &&& 51) < 256 ∧
    ((((b / 2 &&& 85) + (b &&& 85)) / 4 &&& 51) + (((b / 2 &&& 85) + (b &&& 85)) &&& 51)) / 16 ≤ 4 ∧
    ((((b / 2 &&& 85) + (b &&& 85)) / 4 &&& 51) + (((b / 2 &&& 85) + (b &&& 85)) &&& 51)) % 16 ≤ 4 ∧
    ((((b / 2 &&& 85) + (b &&& 85)) / 4 &&& 51) + (((b / 2 &&& 85) + (b &&& 85)) &&& 51)) / 16 + ((((b / 2 &&& 85) + (b &&& 85)) / 4 &&& 51) + (((b / 2 &&& 85) + (b &&& 85)) &&& 51)) % 16 = pc 8 b := by decide +kernel

theorem s1_split (k a b : Nat) (hb : b < 256) : s1 (k + 1) (a * 256 + b) = s1 k a * 256 + ((b / 2 &&& 85) + (b &&& 85)) := by
  unfold s1
  rw [rep, and_split a b _ _ hb (by omega), show (a * 256 + b) / 2 = a / 2 * 256 + (a % 2 * 128 + b / 2) from by omega, and_split _ _ _ _ (by omega) (by omega), byte1 (a % 2) (by omega) b hb]
  omega
theorem s2_split (k a b : Nat) (hb : b < 256) : s2 (k + 1) (a * 256 + b) = s2 k a * 256 + ((b / 4 &&& 51) + (b &&& 51)) := by
  unfold s2
  rw [rep, and_split a b _ _ hb (by omega), show (a * 256 + b) / 4 = a / 4 * 256 + (a % 4 * 64 + b / 4) from by omega, and_split _ _ _ _ (by omega) (by omega), byte2 (a % 4) (by omega) b hb]
  omega
/-- What is left of a byte behind the second step. -/
def t1 (b : Nat) : Nat := (((b / 2 &&& 85) + (b &&& 85)) / 4 &&& 51) + (((b / 2 &&& 85) + (b &&& 85)) &&& 51)
theorem s12_split (k a b : Nat) (hb : b < 256) : s2 (k + 1) (s1 (k + 1) (a * 256 + b)) = s2 k (s1 k a) * 256 + t1 b := by
  rw [s1_split k a b hb, s2_split _ _ _ (byte1_lt b hb)]; rfl
theorem s12_zero : s2 0 (s1 0 0) = 0 := rfl
theorem s12_low (k a : Nat) : s2 k (s1 k a) % 16 ≤ 4 := by
  cases k with
  | zero => simp [s2, s1, rep]
  | succ k =>
    have e : a = a / 256 * 256 + a % 256 := by omega
    rw [e, s12_split k _ _ (by omega)]
    have h := (byte12 (a % 256) (by omega)).2.2.1
    unfold t1
    omega
theorem s3_split (k a b : Nat) (ha : a % 16 ≤ 4) (h1 : b / 16 ≤ 4) (h2 : b % 16 ≤ 4) : s3 (k + 1) (a * 256 + b) = s3 k a * 256 + (b / 16 + b % 16) := by
  unfold s3
  rw [rep, show (a * 256 + b) / 16 + (a * 256 + b) = (a / 16 + a) * 256 + (a % 16 * 16 + b / 16 + b) from by omega, and_split _ _ _ _ (by omega) (by omega)]
  have : (a % 16 * 16 + b / 16 + b) &&& 15 = (a % 16 * 16 + b / 16 + b) % 16 := Nat.and_two_pow_sub_one_eq_mod _ 4
  rw [this]
  omega

/-- Each byte's ones, in its own byte. -/
def spread : Nat → Nat → Nat
  | 0, _ => 0
  | k + 1, x => spread k (x / 256) * 256 + pc 8 (x % 256)
theorem s123 : ∀ k x, s3 k (s2 k (s1 k x)) = spread k x
  | 0, x => by simp [s3, rep, spread]
  | k + 1, x => by
    have e : x = x / 256 * 256 + x % 256 := by omega
    have hb := byte12 (x % 256) (by omega)
    conv => lhs; rw [e]
    rw [s12_split k _ _ (by omega), s3_split _ _ _ (s12_low k _) (by unfold t1; exact hb.2.1) (by unfold t1; exact hb.2.2.1), s123 k (x / 256), spread]
    have := hb.2.2.2
    unfold t1
    omega
theorem s1_lt (x : Nat) : s1 8 x < 18446744073709551616 := by
  have h1 : x / 2 &&& rep 85 8 ≤ rep 85 8 := Nat.and_le_right
  have h2 : x &&& rep 85 8 ≤ rep 85 8 := Nat.and_le_right
  have h3 : rep 85 8 = 6148914691236517205 := by decide
  unfold s1; omega
theorem s2_lt (x : Nat) : s2 8 x < 18446744073709551616 := by
  have h1 : x / 4 &&& rep 51 8 ≤ rep 51 8 := Nat.and_le_right
  have h2 : x &&& rep 51 8 ≤ rep 51 8 := Nat.and_le_right
  have h3 : rep 51 8 = 3689348814741910323 := by decide
  unfold s2; omega

/-- The sum of eight small bytes, as the program makes it. -/
def fold (y : Nat) : Nat := (((y + y / 256) + (y + y / 256) / 65536) + ((y + y / 256) + (y + y / 256) / 65536) / 4294967296) % 128
theorem fold_lt (y : Nat) (hy : y < 1152921504606846976) : y + y / 256 < 18446744073709551616 ∧ (y + y / 256) + (y + y / 256) / 65536 < 18446744073709551616 ∧
    ((y + y / 256) + (y + y / 256) / 65536) + ((y + y / 256) + (y + y / 256) / 65536) / 4294967296 < 18446744073709551616 := by omega
theorem pc8_le (x : Nat) : pc 8 x ≤ 8 := pc_le 8 x
theorem q1 (A p : Nat) (h : p < 256) : (A * 256 + p) / 256 = A := by omega
theorem q2 (A p q : Nat) (h : p < 256) (h' : q < 256) : ((A * 256 + p) * 256 + q) / 65536 = A := by omega
theorem q4 (A p q r s : Nat) (h : p < 256) (h' : q < 256) (h2 : r < 256) (h3 : s < 256) : ((((A * 256 + p) * 256 + q) * 256 + r) * 256 + s) / 4294967296 = A := by omega
theorem fold_bytes (p0 p1 p2 p3 p4 p5 p6 p7 : Nat) (h0 : p0 ≤ 8) (h1 : p1 ≤ 8) (h2 : p2 ≤ 8) (h3 : p3 ≤ 8) (h4 : p4 ≤ 8) (h5 : p5 ≤ 8) (h6 : p6 ≤ 8) (h7 : p7 ≤ 8) :
    fold (((((((p7 * 256 + p6) * 256 + p5) * 256 + p4) * 256 + p3) * 256 + p2) * 256 + p1) * 256 + p0) = p0 + p1 + p2 + p3 + p4 + p5 + p6 + p7 := by
  unfold fold
  have e1 : (((((((p7 * 256 + p6) * 256 + p5) * 256 + p4) * 256 + p3) * 256 + p2) * 256 + p1) * 256 + p0) + (((((((p7 * 256 + p6) * 256 + p5) * 256 + p4) * 256 + p3) * 256 + p2) * 256 + p1) * 256 + p0) / 256
      = ((((((p7 * 256 + (p6 + p7)) * 256 + (p5 + p6)) * 256 + (p4 + p5)) * 256 + (p3 + p4)) * 256 + (p2 + p3)) * 256 + (p1 + p2)) * 256 + (p0 + p1) := by
    rw [q1 _ _ (by omega)]; omega
  rw [e1]
  clear e1
  have e2 : (((((((p7 * 256 + (p6 + p7)) * 256 + (p5 + p6)) * 256 + (p4 + p5)) * 256 + (p3 + p4)) * 256 + (p2 + p3)) * 256 + (p1 + p2)) * 256 + (p0 + p1))
      + (((((((p7 * 256 + (p6 + p7)) * 256 + (p5 + p6)) * 256 + (p4 + p5)) * 256 + (p3 + p4)) * 256 + (p2 + p3)) * 256 + (p1 + p2)) * 256 + (p0 + p1)) / 65536
      = ((((((p7 * 256 + (p6 + p7)) * 256 + (p5 + p6 + p7)) * 256 + (p4 + p5 + (p6 + p7))) * 256 + (p3 + p4 + (p5 + p6))) * 256 + (p2 + p3 + (p4 + p5))) * 256 + (p1 + p2 + (p3 + p4))) * 256 + (p0 + p1 + (p2 + p3)) := by
    rw [q2 _ _ _ (by omega) (by omega)]; omega
  rw [e2, q4 _ _ _ _ _ (by omega) (by omega) (by omega) (by omega)]
  omega
theorem pc64 (x : Nat) : pc 64 x = pc 8 (x % 256) + pc 8 (x / 256 % 256) + pc 8 (x / 256 / 256 % 256) + pc 8 (x / 256 / 256 / 256 % 256) + pc 8 (x / 256 / 256 / 256 / 256 % 256) + pc 8 (x / 256 / 256 / 256 / 256 / 256 % 256)
    + pc 8 (x / 256 / 256 / 256 / 256 / 256 / 256 % 256) + pc 8 (x / 256 / 256 / 256 / 256 / 256 / 256 / 256 % 256) := by
  have m : ∀ y, pc 8 (y % 256) = pc 8 y := fun y => pc_mod 8 y
  simp only [m]
  have a : ∀ n y, pc (8 + n) y = pc 8 y + pc n (y / 256) := fun n y => pc_add 8 n y
  rw [show 64 = 8 + (8 + (8 + (8 + (8 + (8 + (8 + (8 + 0))))))) from rfl, a, a, a, a, a, a, a, a, pc]
  omega
theorem spread_lt (x : Nat) : spread 8 x < 1152921504606846976 := by
  simp only [spread]
  have h0 := pc8_le (x % 256); have h1 := pc8_le (x / 256 % 256); have h2 := pc8_le (x / 256 / 256 % 256); have h3 := pc8_le (x / 256 / 256 / 256 % 256)
  have h4 := pc8_le (x / 256 / 256 / 256 / 256 % 256); have h5 := pc8_le (x / 256 / 256 / 256 / 256 / 256 % 256)
  have h6 := pc8_le (x / 256 / 256 / 256 / 256 / 256 / 256 % 256); have h7 := pc8_le (x / 256 / 256 / 256 / 256 / 256 / 256 / 256 % 256)
  omega
theorem fold_spread (x : Nat) : fold (spread 8 x) = pc 64 x := by
  rw [pc64]
  simp only [spread]
  rw [show 0 * 256 + pc 8 (x / 256 / 256 / 256 / 256 / 256 / 256 / 256 % 256) = pc 8 (x / 256 / 256 / 256 / 256 / 256 / 256 / 256 % 256) from by omega]
  exact fold_bytes _ _ _ _ _ _ _ _ (pc8_le _) (pc8_le _) (pc8_le _) (pc8_le _) (pc8_le _) (pc8_le _) (pc8_le _) (pc8_le _)

/-! ### The program's own words -/
def g1 (x : Int) : Int := IntKind.u64.wrap (bits BinOp.and IntKind.u64 (x / 2) 6148914691236517205 + bits BinOp.and IntKind.u64 x 6148914691236517205)
def g2 (x : Int) : Int := IntKind.u64.wrap (bits BinOp.and IntKind.u64 (x / 4) 3689348814741910323 + bits BinOp.and IntKind.u64 x 3689348814741910323)
def g3 (x : Int) : Int := bits BinOp.and IntKind.u64 (IntKind.u64.wrap (x / 16 + x)) 1085102592571150095
def g4 (x : Int) : Int := IntKind.u64.wrap (x + x / 256)
def g5 (x : Int) : Int := IntKind.u64.wrap (x + x / 65536)
def g6 (x : Int) : Int := IntKind.u64.wrap (x + x / 4294967296)
theorem wrap_u64_nat (n : Nat) (h : n < 18446744073709551616) : IntKind.u64.wrap (n : Int) = n := by rw [IntKind.wrap_u64]; omega
theorem g1_eq (x : Nat) (hx : x < 18446744073709551616) : g1 x = (s1 8 x : Nat) := by
  have h3 : rep 85 8 = 6148914691236517205 := by decide
  have := s1_lt x
  unfold g1
  rw [show ((x : Int) / 2) = ((x / 2 : Nat) : Int) from by omega, show (6148914691236517205 : Int) = ((6148914691236517205 : Nat) : Int) from rfl, u64_and_nat _ _ (by omega) (by omega), u64_and_nat _ _ hx (by omega), ← Int.natCast_add]
  unfold s1 at this ⊢
  rw [h3] at this ⊢
  exact wrap_u64_nat _ this
theorem g2_eq (x : Nat) (hx : x < 18446744073709551616) : g2 x = (s2 8 x : Nat) := by
  have h3 : rep 51 8 = 3689348814741910323 := by decide
  have := s2_lt x
  unfold g2
  rw [show ((x : Int) / 4) = ((x / 4 : Nat) : Int) from by omega, show (3689348814741910323 : Int) = ((3689348814741910323 : Nat) : Int) from rfl, u64_and_nat _ _ (by omega) (by omega), u64_and_nat _ _ hx (by omega), ← Int.natCast_add]
  unfold s2 at this ⊢
  rw [h3] at this ⊢
  exact wrap_u64_nat _ this
theorem s2_small (x : Nat) : s2 8 x / 16 + s2 8 x < 18446744073709551616 := by
  have h1 : x / 4 &&& rep 51 8 ≤ rep 51 8 := Nat.and_le_right
  have h2 : x &&& rep 51 8 ≤ rep 51 8 := Nat.and_le_right
  have h3 : rep 51 8 = 3689348814741910323 := by decide
  unfold s2; omega
theorem g3_eq (x : Nat) (hx : x / 16 + x < 18446744073709551616) : g3 x = (s3 8 x : Nat) := by
  have h3 : rep 15 8 = 1085102592571150095 := by decide
  unfold g3
  rw [show ((x : Int) / 16 + x) = ((x / 16 + x : Nat) : Int) from by omega, wrap_u64_nat _ hx, show (1085102592571150095 : Int) = ((1085102592571150095 : Nat) : Int) from rfl, u64_and_nat _ _ hx (by omega)]
  unfold s3
  rw [h3]
theorem g4_eq (y : Nat) (h : y + y / 256 < 18446744073709551616) : g4 y = ((y + y / 256 : Nat) : Int) := by
  unfold g4; rw [show ((y : Int) + y / 256) = ((y + y / 256 : Nat) : Int) from by omega, wrap_u64_nat _ h]
theorem g5_eq (y : Nat) (h : y + y / 65536 < 18446744073709551616) : g5 y = ((y + y / 65536 : Nat) : Int) := by
  unfold g5; rw [show ((y : Int) + y / 65536) = ((y + y / 65536 : Nat) : Int) from by omega, wrap_u64_nat _ h]
theorem g6_eq (y : Nat) (h : y + y / 4294967296 < 18446744073709551616) : g6 y = ((y + y / 4294967296 : Nat) : Int) := by
  unfold g6; rw [show ((y : Int) + y / 4294967296) = ((y + y / 4294967296 : Nat) : Int) from by omega, wrap_u64_nat _ h]
theorem last_eq (u : Nat) : bits BinOp.and IntKind.i64 (RowKit.wrap64 (u : Int)) 127 = ((u % 128 : Nat) : Int) := by
  rw [i64_and127]; unfold RowKit.wrap64; omega
theorem count_steps (x : Nat) (hx : x < 18446744073709551616) : ∃ y1 y2 y3 y4 y5 y6 : Nat, g1 x = y1 ∧ g2 y1 = y2 ∧ g3 y2 = y3 ∧ g4 y3 = y4 ∧ g5 y4 = y5 ∧ g6 y5 = y6 ∧ bits BinOp.and IntKind.i64 (RowKit.wrap64 (y6 : Int)) 127 = (pc 64 x : Nat) := by
  have a3 := g3_eq _ (s2_small (s1 8 x))
  rw [s123] at a3
  obtain ⟨f1, f2, f3⟩ := fold_lt _ (spread_lt x)
  exact ⟨_, _, _, _, _, _, g1_eq x hx, g2_eq _ (s1_lt x), a3, g4_eq _ f1, g5_eq _ f2, g6_eq _ f3, (last_eq _).trans (congrArg Nat.cast (fold_spread x))⟩
end Go.Proofs.YtjfdlibceldanabGreatDoor.Pop
