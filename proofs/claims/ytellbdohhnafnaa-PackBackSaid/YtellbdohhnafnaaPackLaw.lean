/- Plain laws of the numbers' bytes: what is put is got again. -/
import Derived.Test.YtellbdohhnafnaaGetB
namespace Go.Proofs.Ytellbdohhnafnaa
open Go.Lift
set_option linter.unusedSimpArgs false
set_option linter.unusedVariables false
theorem orU_add (u v n : Nat) (hu : u < 2 ^ (7 * n)) (hb : u + v % 128 * 2 ^ (7 * n) < 18446744073709551616) : orU (u : Int) (v : Int) n = ((u + v % 128 * 2 ^ (7 * n) : Nat) : Int) := by
  have e1 : IntKind.u64.wrap ((v : Int) % 128 * 2 ^ (7 * n)) = ((v % 128 * 2 ^ (7 * n) : Nat) : Int) := by
    have : (v : Int) % 128 * 2 ^ (7 * n) = ((v % 128 * 2 ^ (7 * n) : Nat) : Int) := by simp
    rw [this]; exact u64_small _ (by omega)
  rw [orU, e1]
  show IntKind.u64.wrap (((BitVec.ofInt 64 (u : Int) ||| BitVec.ofInt 64 ((v % 128 * 2 ^ (7 * n) : Nat) : Int)).toNat : Nat) : Int) = _
  have e2 : ∀ x : Nat, BitVec.ofInt 64 (x : Int) = BitVec.ofNat 64 x := fun x => by simp
  rw [e2, e2, BitVec.toNat_or, BitVec.toNat_ofNat, BitVec.toNat_ofNat, Nat.mod_eq_of_lt (by omega), Nat.mod_eq_of_lt (by omega)]
  have : u ||| v % 128 * 2 ^ (7 * n) = u + v % 128 * 2 ^ (7 * n) := by
    rw [Nat.or_comm, Nat.mul_comm, ← Nat.two_pow_add_eq_or_of_lt hu, Nat.add_comm]
  rw [this]
  exact u64_small _ (by omega)
theorem zz_pos (n : Int) (h : 0 ≤ n) (hn : n ≤ 9223372036854775807) : (zz n : Int) = 2 * n := by
  rw [← xor_pos n (by omega) hn]
  rw [u64_small n (by omega)]
  rw [u64_small _ (by omega)]; omega
theorem zz_neg (n : Int) (h : n < 0) (hn : -9223372036854775808 ≤ n) : (zz n : Int) = -2 * n - 1 := by
  rw [← xor_inv n h hn]
  have e1 : IntKind.u64.wrap (IntKind.u64.wrap n * 2) = 18446744073709551616 + 2 * n := by
    simp [IntKind.wrap, IntKind.bits, IntKind.signed]; omega
  rw [e1]
  show IntKind.u64.wrap (((BitVec.ofInt 64 18446744073709551615 ^^^ BitVec.ofInt 64 (18446744073709551616 + 2 * n)).toNat : Nat) : Int) = _
  have e2 : BitVec.ofInt 64 18446744073709551615 = BitVec.allOnes 64 := by decide
  rw [e2, BitVec.allOnes_xor, BitVec.toNat_not, BitVec.toNat_ofInt]
  simp [IntKind.wrap, IntKind.bits, IntKind.signed]; omega
theorem xor_m1 (x : Int) (h : -9223372036854775808 ≤ x ∧ x ≤ 9223372036854775807) : bitI .xor .i64 x (-1) = -1 - x := by
  show IntKind.i64.wrap (((BitVec.ofInt 64 x ^^^ BitVec.ofInt 64 (-1)).toNat : Nat) : Int) = _
  have e2 : BitVec.ofInt 64 (-1) = BitVec.allOnes 64 := by decide
  rw [e2, BitVec.xor_allOnes, BitVec.toNat_not, BitVec.toNat_ofInt]
  simp [IntKind.wrap, IntKind.bits, IntKind.signed]; omega
theorem unzig_zz (n : Int) (h : -9223372036854775808 ≤ n ∧ n ≤ 9223372036854775807) : unzig (zz n) = n := by
  have hz := zz_lt n
  rw [unzig, and1 _ (by omega), Int.fdiv_eq_ediv_of_nonneg _ (by omega)]
  rcases Int.lt_or_le n 0 with hn | hn
  · have e := zz_neg n hn h.1
    rw [e, show (-2 * n - 1) % 2 = 1 by omega, show (-2 * n - 1) / 2 = -n - 1 by omega]
    rw [show IntKind.i64.wrap (0 - IntKind.i64.wrap 1) = -1 by decide, i64_in' (by omega), xor_m1 _ (by omega)]
    omega
  · have e := zz_pos n hn h.2
    rw [e, show 2 * n % 2 = 0 by omega, show 2 * n / 2 = n by omega]
    rw [show IntKind.i64.wrap (0 - IntKind.i64.wrap 0) = 0 by decide, i64_in' (by omega), i64_xor0 _ (by omega)]
/-- Reading on, where the digits of v lie at p + n. -/
theorem getL_put (l : List Int) (p : Nat) : ∀ (k n u v : Nat) (r : List Int), k = 10 - n → l.drop (p + n) = putU v ++ r → u < 2 ^ (7 * n) → u + v * 2 ^ (7 * n) < 18446744073709551616 → (0 < n → 0 < v) →
    getL l p n u = (unzig ((u + v * 2 ^ (7 * n) : Nat) : Int), ((p + n + (putU v).length : Nat) : Int), 0)
  | k, n, u, v, r, hk, hd, hu, hb, hv => by
    have hpow : 0 < 2 ^ (7 * n) := Nat.two_pow_pos _
    have hn9 : n = 9 → v < 2 := fun h => by
      subst h
      have : (2 : Nat) ^ (7 * 9) = 9223372036854775808 := by decide
      rw [this] at hb; omega
    have hn10 : n ≤ 9 := by
      rcases Nat.lt_or_ge n 10 with h | h
      · omega
      · exfalso
        have h1 : 0 < v := hv (by omega)
        have h2 : 2 ^ 70 ≤ 2 ^ (7 * n) := Nat.pow_le_pow_right (by decide) (by omega)
        have h3 : 2 ^ (7 * n) ≤ v * 2 ^ (7 * n) := Nat.le_mul_of_pos_left _ h1
        omega
    have hlen : p + n < l.length := by
      have := congrArg List.length hd
      have hp : 0 < (putU v).length := by
        by_cases h : 128 ≤ v
        · rw [putU_ge h]; simp
        · rw [putU_lt h]; simp
      simp only [List.length_drop, List.length_append] at this
      omega
    have hget : ∀ x s, l.drop (p + n) = x :: s → l.getD (p + n) 0 = x := fun x s h => by
      rw [drop_getD hlen] at h
      exact (List.cons.inj h).1
    rw [getL, if_neg (by omega)]
    by_cases h : 128 ≤ v
    · have hx := hget _ _ (by rw [hd, putU_ge h]; rfl)
      have hne : n ≠ 9 := fun h9 => by have := hn9 h9; omega
      rw [hx, if_neg (by omega), if_neg (by omega), if_neg (by omega)]
      have hd2 : l.drop (p + (n + 1)) = putU (v / 128) ++ r := by
        have : l.drop (p + (n + 1)) = (l.drop (p + n)).drop 1 := by rw [List.drop_drop]; congr 1
        rw [this, hd, putU_ge h]; rfl
      have hpp : 2 ^ (7 * (n + 1)) = 128 * 2 ^ (7 * n) := by rw [Nat.mul_add, Nat.pow_add]; omega
      have hm : v % 128 * 2 ^ (7 * n) ≤ 127 * 2 ^ (7 * n) := Nat.mul_le_mul_right _ (by omega)
      have hsum : v % 128 * 2 ^ (7 * n) + v / 128 * (128 * 2 ^ (7 * n)) = v * 2 ^ (7 * n) := by
        rw [← Nat.mul_assoc, ← Nat.add_mul]
        congr 1
        omega
      have ho : orU (u : Int) ((v % 128 + 128 : Nat) : Int) n = ((u + v % 128 * 2 ^ (7 * n) : Nat) : Int) := by
        have := orU_add u (v % 128 + 128) n hu (by rw [show (v % 128 + 128) % 128 = v % 128 by omega]; omega)
        rw [show (v % 128 + 128) % 128 = v % 128 by omega] at this
        exact this
      rw [ho, getL_put l p (k - 1) (n + 1) (u + v % 128 * 2 ^ (7 * n)) (v / 128) r (by omega) hd2 (by rw [hpp]; omega) (by rw [hpp]; omega) (by omega)]
      rw [hpp, putU_ge h]
      simp only [List.length_cons]
      rw [show u + v % 128 * 2 ^ (7 * n) + v / 128 * (128 * 2 ^ (7 * n)) = u + v * 2 ^ (7 * n) by omega]
      rw [show p + (n + 1) + (putU (v / 128)).length = p + n + ((putU (v / 128)).length + 1) by omega]
    · have hx := hget _ _ (by rw [hd, putU_lt h]; rfl)
      rw [hx, if_neg (by rintro ⟨h9, h1⟩; have := hn9 h9; omega), if_pos (by omega), if_neg (by rintro ⟨h9, h1⟩; have := hv h9; omega)]
      rw [orU_add u v n hu (by rw [Nat.mod_eq_of_lt (by omega)]; exact hb), Nat.mod_eq_of_lt (by omega), putU_lt h]
      simp
  termination_by k => k
  decreasing_by omega
theorem getI_put (b r : List Int) (n : Int) (h : -9223372036854775808 ≤ n ∧ n ≤ 9223372036854775807) : getI (b ++ putI n ++ r) b.length = (n, ((b.length + (putI n).length : Nat) : Int), 0) := by
  rw [getI, if_neg (by simp; omega), Int.toNat_natCast]
  have := getL_put (b ++ putI n ++ r) b.length 10 0 0 (zz n) r rfl (by simp [putI]) (by decide) (by have := zz_lt n; simpa using this) (by omega)
  simp only [Nat.mul_zero, Nat.pow_zero, Nat.mul_one, Nat.zero_add, Nat.add_zero] at this
  rw [show ((0 : Nat) : Int) = 0 by rfl] at this
  rw [this, unzig_zz n h]; rfl
end Go.Proofs.Ytellbdohhnafnaa
