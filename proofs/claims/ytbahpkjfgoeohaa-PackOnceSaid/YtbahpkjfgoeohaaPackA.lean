/- The bytes of numbers: plain laws. -/
import Derived.Test.YtbahpkjfgoeohaaBase
namespace Go.Proofs.Ytbahpkjfgoeohaa
open Go.Lift
set_option linter.unusedSimpArgs false
set_option linter.unusedVariables false
set_option maxRecDepth 10000
/-- The bytes of a number of seven bits and more. -/
def putU (u : Nat) : List Int := if h : 128 ≤ u then ((u % 128 + 128 : Nat) : Int) :: putU (u / 128) else [(u : Int)]
  termination_by u
  decreasing_by omega
theorem or128 : ∀ m : Fin 256, (BitVec.ofNat 8 m.val ||| BitVec.ofNat 8 128).toNat = m.val % 128 + 128 := by decide
theorem u8_or (u : Nat) : bitI .or .u8 (IntKind.u8.wrap (u : Int)) 128 = ((u % 128 + 128 : Nat) : Int) := by
  have h1 : BitVec.ofInt 8 (IntKind.u8.wrap (u : Int)) = BitVec.ofNat 8 (u % 256) := by
    apply BitVec.eq_of_toNat_eq
    simp [IntKind.wrap, IntKind.bits, IntKind.signed]
    omega
  have h2 := or128 ⟨u % 256, by omega⟩
  show IntKind.u8.wrap (((BitVec.ofInt 8 (IntKind.u8.wrap (u : Int)) ||| BitVec.ofInt 8 128).toNat : Nat) : Int) = _
  rw [h1]
  have h3 : (BitVec.ofInt 8 128) = BitVec.ofNat 8 128 := by decide
  rw [h3]
  simp only at h2
  rw [h2]
  simp [IntKind.wrap, IntKind.bits, IntKind.signed]
  omega
def zzE (n : Int) : Int := bitI .xor .u64 (IntKind.u64.wrap (IntKind.i64.wrap (n * 2))) (IntKind.u64.wrap (n.fdiv 9223372036854775808))
def zz (n : Int) : Nat := (zzE n).toNat
theorem u64_nn (x : Int) : 0 ≤ IntKind.u64.wrap x ∧ IntKind.u64.wrap x < 18446744073709551616 := by
  simp [IntKind.wrap, IntKind.bits, IntKind.signed]; omega
theorem zz_eq (n : Int) : bitI .xor .u64 (IntKind.u64.wrap (IntKind.i64.wrap (n * 2))) (IntKind.u64.wrap (n.fdiv 9223372036854775808)) = (zz n : Int) := by
  show zzE n = _
  have := u64_nn ((((BitVec.ofInt 64 (IntKind.u64.wrap (IntKind.i64.wrap (n * 2)))) ^^^ (BitVec.ofInt 64 (IntKind.u64.wrap (n.fdiv 9223372036854775808)))).toNat : Nat) : Int)
  have h2 : zzE n = IntKind.u64.wrap ((((BitVec.ofInt 64 (IntKind.u64.wrap (IntKind.i64.wrap (n * 2)))) ^^^ (BitVec.ofInt 64 (IntKind.u64.wrap (n.fdiv 9223372036854775808)))).toNat : Nat) : Int) := rfl
  unfold zz
  rw [h2]
  omega
/-- What PutInt appends. -/
def putI (n : Int) : List Int := putU (zz n)
theorem putU_ge {u : Nat} (h : 128 ≤ u) : putU u = ((u % 128 + 128 : Nat) : Int) :: putU (u / 128) := by
  rw [putU]; simp [h]
theorem putU_lt {u : Nat} (h : ¬128 ≤ u) : putU u = [(u : Int)] := by
  rw [putU]; simp [h]
theorem sh7 (u : Nat) : (u : Int).fdiv 128 = ((u / 128 : Nat) : Int) := by
  rw [Int.fdiv_eq_ediv_of_nonneg _ (by omega)]; omega
theorem u8_small (u : Nat) (h : ¬128 ≤ u) : IntKind.u8.wrap (u : Int) = u := by
  simp [IntKind.wrap, IntKind.bits, IntKind.signed]; omega
theorem putU_len : ∀ (k u : Nat), u < 128 ^ (k + 1) → (putU u).length ≤ k + 1
  | 0, u, h => by rw [putU_lt (by omega)]; simp
  | k + 1, u, h => by
    rcases Nat.lt_or_ge u 128 with h1 | h1
    · rw [putU_lt (by omega)]; simp
    · rw [putU_ge h1]
      have := putU_len k (u / 128) (by rw [Nat.pow_succ] at h; omega)
      simp only [List.length_cons]; omega
theorem zz_lt (n : Int) : zz n < 18446744073709551616 := by
  have := u64_nn ((((BitVec.ofInt 64 (IntKind.u64.wrap (IntKind.i64.wrap (n * 2)))) ^^^ (BitVec.ofInt 64 (IntKind.u64.wrap (n.fdiv 9223372036854775808)))).toNat : Nat) : Int)
  have h2 : zzE n = IntKind.u64.wrap ((((BitVec.ofInt 64 (IntKind.u64.wrap (IntKind.i64.wrap (n * 2)))) ^^^ (BitVec.ofInt 64 (IntKind.u64.wrap (n.fdiv 9223372036854775808)))).toNat : Nat) : Int) := rfl
  unfold zz
  rw [h2]
  omega
theorem putI_len (n : Int) : (putI n).length ≤ 10 := putU_len 9 _ (Nat.lt_of_lt_of_le (zz_lt n) (by decide))
theorem wrap2 (n : Int) : IntKind.u64.wrap (IntKind.i64.wrap (n * 2)) = IntKind.u64.wrap (IntKind.u64.wrap n * 2) := by
  simp [IntKind.wrap, IntKind.bits, IntKind.signed]; omega
theorem xor_comm64 (a b : Int) : bitI .xor .u64 a b = bitI .xor .u64 b a := by
  show IntKind.u64.wrap ((BitVec.ofInt 64 a ^^^ BitVec.ofInt 64 b).toNat : Int) = IntKind.u64.wrap ((BitVec.ofInt 64 b ^^^ BitVec.ofInt 64 a).toNat : Int)
  rw [BitVec.xor_comm]
theorem xor_zero64 (a : Int) (h : 0 ≤ a ∧ a < 18446744073709551616) : bitI .xor .u64 a 0 = a := by
  show IntKind.u64.wrap ((BitVec.ofInt 64 a ^^^ BitVec.ofInt 64 0).toNat : Int) = a
  have : BitVec.ofInt 64 0 = 0#64 := by decide
  rw [this, BitVec.xor_zero, BitVec.toNat_ofInt]
  simp [IntKind.wrap, IntKind.bits, IntKind.signed]; omega
theorem xor_inv (n : Int) (h : n < 0) (hn : -9223372036854775808 ≤ n) : bitI .xor .u64 18446744073709551615 (IntKind.u64.wrap (IntKind.u64.wrap n * 2)) = (zz n : Int) := by
  rw [← zz_eq, wrap2, xor_comm64]
  congr 1
  rw [Int.fdiv_eq_ediv_of_nonneg _ (by omega)]
  have : n / 9223372036854775808 = -1 := by omega
  rw [this]; decide
theorem xor_pos (n : Int) (h : ¬n < 0) (hn : n ≤ 9223372036854775807) : IntKind.u64.wrap (IntKind.u64.wrap n * 2) = (zz n : Int) := by
  rw [← zz_eq, wrap2, Int.fdiv_eq_ediv_of_nonneg _ (by omega)]
  have : n / 9223372036854775808 = 0 := by omega
  rw [this]
  exact (xor_zero64 _ (u64_nn _)).symm
abbrev R3 := Int × Int × Int
def Bytes (l : List Int) : Prop := ∀ x ∈ l, 0 ≤ x ∧ x < 256
/-- The number whose zigzag form is u. -/
def unzig (u : Int) : Int := bitI .xor .i64 (IntKind.i64.wrap (u.fdiv 2)) (IntKind.i64.wrap (0 - IntKind.i64.wrap (bitI .and .u64 u 1)))
def orU (u c : Int) (n : Nat) : Int := bitI .or .u64 u (IntKind.u64.wrap (c % 128 * 2 ^ (7 * n)))
def getL (l : List Int) (p n : Nat) (u : Int) : R3 :=
  if l.length ≤ p + n then (0, 0, 4) else
  if n = 9 ∧ 1 < l.getD (p + n) 0 then (0, 0, 5) else
  if l.getD (p + n) 0 < 128 then (if 0 < n ∧ l.getD (p + n) 0 = 0 then (0, 0, 5) else (unzig (orU u (l.getD (p + n) 0) n), ((p + n + 1 : Nat) : Int), 0)) else
  if 9 ≤ n then (0, 0, 5) else getL l p (n + 1) (orU u (l.getD (p + n) 0) n)
  termination_by 10 - n
  decreasing_by omega
def getI (l : List Int) (at_ : Int) : R3 := if at_ < 0 ∨ (l.length : Int) < at_ then (0, 0, 2) else getL l at_.toNat 0 0
theorem and127 : ∀ m : Fin 256, (BitVec.ofNat 8 m.val &&& BitVec.ofNat 8 127).toNat = m.val % 128 := by decide
theorem u8_and (c : Int) (h : 0 ≤ c ∧ c < 256) : bitI .and .u8 c 127 = c % 128 := by
  have h2 := and127 ⟨c.toNat, by omega⟩
  show IntKind.u8.wrap (((BitVec.ofInt 8 c &&& BitVec.ofInt 8 127).toNat : Nat) : Int) = _
  have h1 : BitVec.ofInt 8 c = BitVec.ofNat 8 c.toNat := by
    apply BitVec.eq_of_toNat_eq
    simp; omega
  have h3 : (BitVec.ofInt 8 127) = BitVec.ofNat 8 127 := by decide
  rw [h1, h3]
  simp only at h2
  rw [h2]
  simp [IntKind.wrap, IntKind.bits, IntKind.signed]; omega
theorem u64_small (x : Int) (h : 0 ≤ x ∧ x < 18446744073709551616) : IntKind.u64.wrap x = x := by
  simp [IntKind.wrap, IntKind.bits, IntKind.signed]; omega
theorem s7n (n : Nat) : (7 * (n : Int)).toNat = 7 * n := by omega
theorem s7 (n : Nat) : (7 * ((n : Int) + 1 - 1)).toNat = 7 * n := by omega
theorem Bytes.at {l : List Int} (h : Bytes l) {k : Nat} (hk : k < l.length) : 0 ≤ l.getD k 0 ∧ l.getD k 0 < 256 := by
  have : l.getD k 0 = l[k] := by simp [List.getD, hk]
  rw [this]; exact h _ (List.getElem_mem hk)
theorem orU_nn (u c : Int) (n : Nat) : 0 ≤ orU u c n ∧ orU u c n < 18446744073709551616 := u64_nn ((BitVec.ofInt 64 u ||| BitVec.ofInt 64 (IntKind.u64.wrap (c % 128 * 2 ^ (7 * n)))).toNat : Nat)
theorem and1 (u : Int) (h : 0 ≤ u ∧ u < 18446744073709551616) : bitI .and .u64 u 1 = u % 2 := by
  show IntKind.u64.wrap (((BitVec.ofInt 64 u &&& BitVec.ofInt 64 1).toNat : Nat) : Int) = _
  have h3 : (BitVec.ofInt 64 1) = 1#64 := by decide
  rw [h3, BitVec.toNat_and]
  have : (1#64).toNat = 1 := by decide
  rw [this, Nat.and_one_is_mod]
  simp [IntKind.wrap, IntKind.bits, IntKind.signed, BitVec.toNat_ofInt]; omega
theorem and127_64 (c : Int) (h : 0 ≤ c ∧ c < 256) : bitI .and .u64 c 127 = c % 128 := by
  show IntKind.u64.wrap (((BitVec.ofInt 64 c &&& BitVec.ofInt 64 127).toNat : Nat) : Int) = _
  have h3 : (BitVec.ofInt 64 127) = BitVec.ofNat 64 127 := by decide
  rw [h3, BitVec.toNat_and]
  have : (BitVec.ofNat 64 127).toNat = 2 ^ 7 - 1 := by decide
  rw [this, Nat.and_two_pow_sub_one_eq_mod]
  simp [IntKind.wrap, IntKind.bits, IntKind.signed, BitVec.toNat_ofInt]; omega
theorem i64_nn (x : Int) : -9223372036854775808 ≤ IntKind.i64.wrap x ∧ IntKind.i64.wrap x ≤ 9223372036854775807 := by
  simp [IntKind.wrap, IntKind.bits, IntKind.signed]; omega
theorem i64_xor0 (x : Int) (h : -9223372036854775808 ≤ x ∧ x ≤ 9223372036854775807) : bitI .xor .i64 x 0 = x := by
  show IntKind.i64.wrap ((BitVec.ofInt 64 x ^^^ BitVec.ofInt 64 0).toNat : Int) = x
  have : BitVec.ofInt 64 0 = 0#64 := by decide
  rw [this, BitVec.xor_zero, BitVec.toNat_ofInt]
  simp [IntKind.wrap, IntKind.bits, IntKind.signed]; omega
theorem i64_xor_comm (a b : Int) : bitI .xor .i64 a b = bitI .xor .i64 b a := by
  show IntKind.i64.wrap ((BitVec.ofInt 64 a ^^^ BitVec.ofInt 64 b).toNat : Int) = IntKind.i64.wrap ((BitVec.ofInt 64 b ^^^ BitVec.ofInt 64 a).toNat : Int)
  rw [BitVec.xor_comm]
theorem unzig_odd (u : Int) (h : 0 ≤ u ∧ u < 18446744073709551616) (h1 : bitI .and .u64 u 1 = 1) : bitI .xor .i64 (-1) (IntKind.i64.wrap (u.fdiv 2)) = unzig u := by
  rw [unzig, h1, i64_xor_comm]; congr 1
theorem unzig_even (u : Int) (h : 0 ≤ u ∧ u < 18446744073709551616) (h1 : ¬bitI .and .u64 u 1 = 1) : IntKind.i64.wrap (u.fdiv 2) = unzig u := by
  rw [and1 u h] at h1
  rw [unzig, and1 u h, show u % 2 = 0 by omega]
  exact (i64_xor0 _ (i64_nn _)).symm
theorem unzig_in (u : Int) : -9223372036854775808 ≤ unzig u ∧ unzig u ≤ 9223372036854775807 :=
  i64_nn ((BitVec.ofInt 64 (IntKind.i64.wrap (u.fdiv 2)) ^^^ BitVec.ofInt 64 (IntKind.i64.wrap (0 - IntKind.i64.wrap (bitI .and .u64 u 1)))).toNat : Nat)
theorem getL_ok (l : List Int) (p : Nat) : ∀ (k n : Nat) (u : Int), k = 10 - n → (getL l p n u).2.2 = 0 → 0 ≤ (getL l p n u).2.1 ∧ (getL l p n u).2.1 ≤ l.length ∧ -9223372036854775808 ≤ (getL l p n u).1 ∧ (getL l p n u).1 ≤ 9223372036854775807
  | k, n, u, hk, h => by
    rw [getL] at h ⊢
    split at h
    · simp at h
    rename_i h1
    rw [if_neg h1]
    split at h
    · simp at h
    rename_i h2
    rw [if_neg h2]
    split at h
    · rename_i h3
      rw [if_pos h3]
      split at h
      · simp at h
      rename_i h4
      rw [if_neg h4]
      have := unzig_in (orU u (l.getD (p + n) 0) n)
      exact ⟨by simp only; omega, by simp only; omega, this.1, this.2⟩
    · rename_i h3
      rw [if_neg h3]
      split at h
      · simp at h
      rename_i h4
      rw [if_neg h4]
      exact getL_ok l p (k - 1) (n + 1) _ (by omega) h
  termination_by k => k
  decreasing_by omega
theorem getI_ok (l : List Int) (a : Int) : (getI l a).2.2 = 0 → 0 ≤ (getI l a).2.1 ∧ (getI l a).2.1 ≤ l.length ∧ -9223372036854775808 ≤ (getI l a).1 ∧ (getI l a).1 ≤ 9223372036854775807 := by
  intro h
  simp only [getI] at h ⊢
  split at h
  · simp at h
  rename_i h1
  rw [if_neg h1]
  exact getL_ok l _ _ _ _ rfl h
/-- Bytes and their number, or the error. -/
def getB (l : List Int) (a : Int) : List Int × Int × Int :=
  if (getI l a).2.2 ≠ 0 then ([], 0, (getI l a).2.2) else
  if (getI l a).1 < 0 then ([], 0, 5) else
  if (l.length : Int) - (getI l a).2.1 < (getI l a).1 then ([], 0, 4) else
  ((l.drop (getI l a).2.1.toNat).take (getI l a).1.toNat, (getI l a).2.1 + (getI l a).1, 0)
theorem orU_add (u v n : Nat) (hu : u < 2 ^ (7 * n)) (hb : u + v % 128 * 2 ^ (7 * n) < 18446744073709551616) : orU (u : Int) (v : Int) n = ((u + v % 128 * 2 ^ (7 * n) : Nat) : Int) := by
  have e1 : IntKind.u64.wrap ((v : Int) % 128 * 2 ^ (7 * n)) = ((v % 128 * 2 ^ (7 * n) : Nat) : Int) := by
    have : (v : Int) % 128 * 2 ^ (7 * n) = ((v % 128 * 2 ^ (7 * n) : Nat) : Int) := by simp
    rw [this]; exact u64_small _ (by omega)
  rw [orU, e1]
  show IntKind.u64.wrap (((BitVec.ofInt 64 (u : Int) ||| BitVec.ofInt 64 ((v % 128 * 2 ^ (7 * n) : Nat) : Int)).toNat : Nat) : Int) = _
  have e2 : ∀ x : Nat, BitVec.ofInt 64 (x : Int) = BitVec.ofNat 64 x := fun x => by simp
  rw [e2, e2, BitVec.toNat_or, BitVec.toNat_ofNat, BitVec.toNat_ofNat, Nat.mod_eq_of_lt (by omega), Nat.mod_eq_of_lt (by omega)]
  have : u ||| v % 128 * 2 ^ (7 * n) = u + v % 128 * 2 ^ (7 * n) := by
    rw [Nat.or_comm, Nat.mul_comm, ← Nat.two_pow_add_eq_or_of_lt hu, Nat.add_comm]
  rw [this]
  exact u64_small _ (by omega)
theorem zz_pos (n : Int) (h : 0 ≤ n) (hn : n ≤ 9223372036854775807) : (zz n : Int) = 2 * n := by
  rw [← xor_pos n (by omega) hn]
  rw [u64_small n (by omega)]
  rw [u64_small _ (by omega)]; omega
theorem zz_neg (n : Int) (h : n < 0) (hn : -9223372036854775808 ≤ n) : (zz n : Int) = -2 * n - 1 := by
  rw [← xor_inv n h hn]
  have e1 : IntKind.u64.wrap (IntKind.u64.wrap n * 2) = 18446744073709551616 + 2 * n := by
    simp [IntKind.wrap, IntKind.bits, IntKind.signed]; omega
  rw [e1]
  show IntKind.u64.wrap (((BitVec.ofInt 64 18446744073709551615 ^^^ BitVec.ofInt 64 (18446744073709551616 + 2 * n)).toNat : Nat) : Int) = _
  have e2 : BitVec.ofInt 64 18446744073709551615 = BitVec.allOnes 64 := by decide
  rw [e2, BitVec.allOnes_xor, BitVec.toNat_not, BitVec.toNat_ofInt]
  simp [IntKind.wrap, IntKind.bits, IntKind.signed]; omega
theorem xor_m1 (x : Int) (h : -9223372036854775808 ≤ x ∧ x ≤ 9223372036854775807) : bitI .xor .i64 x (-1) = -1 - x := by
  show IntKind.i64.wrap (((BitVec.ofInt 64 x ^^^ BitVec.ofInt 64 (-1)).toNat : Nat) : Int) = _
  have e2 : BitVec.ofInt 64 (-1) = BitVec.allOnes 64 := by decide
  rw [e2, BitVec.xor_allOnes, BitVec.toNat_not, BitVec.toNat_ofInt]
  simp [IntKind.wrap, IntKind.bits, IntKind.signed]; omega
theorem unzig_zz (n : Int) (h : -9223372036854775808 ≤ n ∧ n ≤ 9223372036854775807) : unzig (zz n) = n := by
  have hz := zz_lt n
  rw [unzig, and1 _ (by omega), Int.fdiv_eq_ediv_of_nonneg _ (by omega)]
  rcases Int.lt_or_le n 0 with hn | hn
  · have e := zz_neg n hn h.1
    rw [e, show (-2 * n - 1) % 2 = 1 by omega, show (-2 * n - 1) / 2 = -n - 1 by omega]
    rw [show IntKind.i64.wrap (0 - IntKind.i64.wrap 1) = -1 by decide, i64_in' (by omega), xor_m1 _ (by omega)]
    omega
  · have e := zz_pos n hn h.2
    rw [e, show 2 * n % 2 = 0 by omega, show 2 * n / 2 = n by omega]
    rw [show IntKind.i64.wrap (0 - IntKind.i64.wrap 0) = 0 by decide, i64_in' (by omega), i64_xor0 _ (by omega)]
theorem drop_getD {l : List Int} {i : Nat} (h : i < l.length) : l.drop i = l.getD i 0 :: l.drop (i + 1) := by
  rw [List.drop_eq_getElem_cons h]; simp [List.getD, h]
set_option maxRecDepth 10000 in
/-- Reading on, where the digits of v lie at p + n. -/
theorem getL_put (l : List Int) (p : Nat) : ∀ (k n u v : Nat) (r : List Int), k = 10 - n → l.drop (p + n) = putU v ++ r → u < 2 ^ (7 * n) → u + v * 2 ^ (7 * n) < 18446744073709551616 → (0 < n → 0 < v) →
    getL l p n u = (unzig ((u + v * 2 ^ (7 * n) : Nat) : Int), ((p + n + (putU v).length : Nat) : Int), 0)
  | k, n, u, v, r, hk, hd, hu, hb, hv => by
    have hpow : 0 < 2 ^ (7 * n) := Nat.two_pow_pos _
    have hn9 : n = 9 → v < 2 := fun h => by
      subst h
      have : (2 : Nat) ^ (7 * 9) = 9223372036854775808 := by decide
      rw [this] at hb; omega
    have hn10 : n ≤ 9 := by
      rcases Nat.lt_or_ge n 10 with h | h
      · omega
      · exfalso
        have h1 : 0 < v := hv (by omega)
        have h2 : 2 ^ 70 ≤ 2 ^ (7 * n) := Nat.pow_le_pow_right (by decide) (by omega)
        have h3 : 2 ^ (7 * n) ≤ v * 2 ^ (7 * n) := Nat.le_mul_of_pos_left _ h1
        omega
    have hlen : p + n < l.length := by
      have := congrArg List.length hd
      have hp : 0 < (putU v).length := by
        by_cases h : 128 ≤ v
        · rw [putU_ge h]; simp
        · rw [putU_lt h]; simp
      simp only [List.length_drop, List.length_append] at this
      omega
    have hget : ∀ x s, l.drop (p + n) = x :: s → l.getD (p + n) 0 = x := fun x s h => by
      rw [drop_getD hlen] at h
      exact (List.cons.inj h).1
    rw [getL, if_neg (by omega)]
    by_cases h : 128 ≤ v
    · have hx := hget _ _ (by rw [hd, putU_ge h]; rfl)
      have hne : n ≠ 9 := fun h9 => by have := hn9 h9; omega
      rw [hx, if_neg (by omega), if_neg (by omega), if_neg (by omega)]
      have hd2 : l.drop (p + (n + 1)) = putU (v / 128) ++ r := by
        have : l.drop (p + (n + 1)) = (l.drop (p + n)).drop 1 := by rw [List.drop_drop]; congr 1
        rw [this, hd, putU_ge h]; rfl
      have hpp : 2 ^ (7 * (n + 1)) = 128 * 2 ^ (7 * n) := by rw [Nat.mul_add, Nat.pow_add]; omega
      have hm : v % 128 * 2 ^ (7 * n) ≤ 127 * 2 ^ (7 * n) := Nat.mul_le_mul_right _ (by omega)
      have hsum : v % 128 * 2 ^ (7 * n) + v / 128 * (128 * 2 ^ (7 * n)) = v * 2 ^ (7 * n) := by
        rw [← Nat.mul_assoc, ← Nat.add_mul]
        congr 1
        omega
      have ho : orU (u : Int) ((v % 128 + 128 : Nat) : Int) n = ((u + v % 128 * 2 ^ (7 * n) : Nat) : Int) := by
        have := orU_add u (v % 128 + 128) n hu (by rw [show (v % 128 + 128) % 128 = v % 128 by omega]; omega)
        rw [show (v % 128 + 128) % 128 = v % 128 by omega] at this
        exact this
      rw [ho, getL_put l p (k - 1) (n + 1) (u + v % 128 * 2 ^ (7 * n)) (v / 128) r (by omega) hd2 (by rw [hpp]; omega) (by rw [hpp]; omega) (by omega)]
      rw [hpp, putU_ge h]
      simp only [List.length_cons]
      rw [show u + v % 128 * 2 ^ (7 * n) + v / 128 * (128 * 2 ^ (7 * n)) = u + v * 2 ^ (7 * n) by omega]
      rw [show p + (n + 1) + (putU (v / 128)).length = p + n + ((putU (v / 128)).length + 1) by omega]
    · have hx := hget _ _ (by rw [hd, putU_lt h]; rfl)
      rw [hx, if_neg (by rintro ⟨h9, h1⟩; have := hn9 h9; omega), if_pos (by omega), if_neg (by rintro ⟨h9, h1⟩; have := hv h9; omega)]
      rw [orU_add u v n hu (by rw [Nat.mod_eq_of_lt (by omega)]; exact hb), Nat.mod_eq_of_lt (by omega), putU_lt h]
      simp
  termination_by k => k
  decreasing_by omega
theorem getI_put (b r : List Int) (n : Int) (h : -9223372036854775808 ≤ n ∧ n ≤ 9223372036854775807) : getI (b ++ putI n ++ r) b.length = (n, ((b.length + (putI n).length : Nat) : Int), 0) := by
  rw [getI, if_neg (by simp; omega), Int.toNat_natCast]
  have := getL_put (b ++ putI n ++ r) b.length 10 0 0 (zz n) r rfl (by simp [putI]) (by decide) (by have := zz_lt n; simpa using this) (by omega)
  simp only [Nat.mul_zero, Nat.pow_zero, Nat.mul_one, Nat.zero_add, Nat.add_zero] at this
  rw [show ((0 : Nat) : Int) = 0 by rfl] at this
  rw [this, unzig_zz n h]; rfl
theorem zz_unzig (u : Nat) (h : u < 18446744073709551616) : zz (unzig (u : Int)) = u := by
  have e : unzig (u : Int) = if u % 2 = 1 then -1 - ((u / 2 : Nat) : Int) else ((u / 2 : Nat) : Int) := by
    rw [unzig, and1 _ (by omega), Int.fdiv_eq_ediv_of_nonneg _ (by omega)]
    split
    · rw [show (u : Int) % 2 = 1 by omega, show IntKind.i64.wrap (0 - IntKind.i64.wrap 1) = -1 by decide, i64_in' (by omega), xor_m1 _ (by omega)]
      omega
    · rw [show (u : Int) % 2 = 0 by omega, show IntKind.i64.wrap (0 - IntKind.i64.wrap 0) = 0 by decide, i64_in' (by omega), i64_xor0 _ (by omega)]
      omega
  rw [e]
  split
  · have := zz_neg (-1 - ((u / 2 : Nat) : Int)) (by omega) (by omega)
    omega
  · have := zz_pos ((u / 2 : Nat) : Int) (by omega) (by omega)
    omega
theorem getL_back (l : List Int) (hl : Bytes l) (p : Nat) : ∀ (k n u : Nat), k = 10 - n → n ≤ 9 → u < 2 ^ (7 * n) → (getL l p n u).2.2 = 0 →
    ∃ v r, l.drop (p + n) = putU v ++ r ∧ (0 < n → 0 < v) ∧ u + v * 2 ^ (7 * n) < 18446744073709551616 ∧ getL l p n u = (unzig ((u + v * 2 ^ (7 * n) : Nat) : Int), ((p + n + (putU v).length : Nat) : Int), 0)
  | k, n, u, hk, h9, hu, h => by
    have hpow : 0 < 2 ^ (7 * n) := Nat.two_pow_pos _
    rw [getL] at h ⊢
    by_cases h1 : l.length ≤ p + n
    · rw [if_pos h1] at h; simp at h
    rw [if_neg h1] at h ⊢
    have hb := hl.at (Nat.lt_of_not_le h1)
    have hd := drop_getD (Nat.lt_of_not_le h1)
    obtain ⟨c, hc⟩ : ∃ c : Nat, l.getD (p + n) 0 = (c : Int) := ⟨(l.getD (p + n) 0).toNat, by omega⟩
    rw [hc] at h hb hd ⊢
    by_cases h2 : n = 9 ∧ 1 < (c : Int)
    · rw [if_pos h2] at h; simp at h
    rw [if_neg h2] at h ⊢
    have hp9 : 2 ^ (7 * n) ≤ 9223372036854775808 := by
      have : 2 ^ (7 * n) ≤ 2 ^ 63 := Nat.pow_le_pow_right (by decide) (by omega)
      simpa using this
    have hcap : c % 128 * 2 ^ (7 * n) + u < 18446744073709551616 := by
      by_cases hn : n = 9
      · subst hn
        have : c ≤ 1 := by omega
        have e2 : (2 : Nat) ^ (7 * 9) = 9223372036854775808 := by decide
        rw [e2] at hu ⊢; omega
      · have : 2 ^ (7 * n) ≤ 2 ^ 56 := Nat.pow_le_pow_right (by decide) (by omega)
        have e2 : (2 : Nat) ^ 56 = 72057594037927936 := by decide
        have : c % 128 * 2 ^ (7 * n) ≤ 127 * 2 ^ (7 * n) := Nat.mul_le_mul_right _ (by omega)
        omega
    by_cases h3 : (c : Int) < 128
    · rw [if_pos h3] at h ⊢
      by_cases h4 : 0 < n ∧ (c : Int) = 0
      · rw [if_pos h4] at h; simp at h
      rw [if_neg h4]
      refine ⟨c, l.drop (p + n + 1), by rw [hd, putU_lt (by omega)]; rfl, by omega, by rw [Nat.mod_eq_of_lt (by omega)] at hcap; omega, ?_⟩
      rw [orU_add u c n hu (by omega), Nat.mod_eq_of_lt (by omega), putU_lt (by omega)]
      simp
    · rw [if_neg h3] at h ⊢
      by_cases h5 : 9 ≤ n
      · rw [if_pos h5] at h; simp at h
      rw [if_neg h5] at h ⊢
      have hpp : 2 ^ (7 * (n + 1)) = 128 * 2 ^ (7 * n) := by rw [Nat.mul_add, Nat.pow_add]; omega
      have hm : c % 128 * 2 ^ (7 * n) ≤ 127 * 2 ^ (7 * n) := Nat.mul_le_mul_right _ (by omega)
      rw [orU_add u c n hu (by omega)] at h ⊢
      obtain ⟨v, r, g1, g2, g3, g4⟩ := getL_back l hl p (k - 1) (n + 1) (u + c % 128 * 2 ^ (7 * n)) (by omega) (by omega) (by rw [hpp]; omega) h
      rw [hpp] at g3 g4
      have hv := g2 (by omega)
      have hmul : (c % 128 + 128 * v) * 2 ^ (7 * n) = c % 128 * 2 ^ (7 * n) + v * (128 * 2 ^ (7 * n)) := by
        rw [Nat.add_mul, Nat.mul_comm 128 v, Nat.mul_assoc]
      have hput : putU (c % 128 + 128 * v) = (c : Int) :: putU v := by
        rw [putU_ge (by omega), show (c % 128 + 128 * v) % 128 = c % 128 by omega, show (c % 128 + 128 * v) / 128 = v by omega, show c % 128 + 128 = c by omega]
      refine ⟨c % 128 + 128 * v, r, ?_, by omega, by rw [hmul]; omega, ?_⟩
      · rw [hd, hput, show p + n + 1 = p + (n + 1) by omega, g1]; rfl
      · rw [g4, hmul, hput]
        simp only [List.length_cons]
        rw [show u + c % 128 * 2 ^ (7 * n) + v * (128 * 2 ^ (7 * n)) = u + (c % 128 * 2 ^ (7 * n) + v * (128 * 2 ^ (7 * n))) by omega, show p + (n + 1) + (putU v).length = p + n + ((putU v).length + 1) by omega]
  termination_by k => k
  decreasing_by omega
theorem getL_short (l : List Int) (p : Nat) : ∀ (j n : Nat) (u : Int) (v : Nat), l.drop (p + n) = (putU v).take j → j < (putU v).length → n + (putU v).length ≤ 10 → getL l p n u = (0, 0, 4)
  | 0, n, u, v, hd, hj, hn => by
    rw [getL, if_pos]
    have := congrArg List.length hd
    simp at this; omega
  | j + 1, n, u, v, hd, hj, hn => by
    have h128 : 128 ≤ v := by
      rcases Nat.lt_or_ge v 128 with h | h
      · rw [putU_lt (by omega)] at hj; simp at hj
      · exact h
    rw [putU_ge h128] at hd hj hn
    simp only [List.take_succ_cons, List.length_cons] at hd hj hn
    have hpos : 0 < (putU (v / 128)).length := by
      by_cases h : 128 ≤ v / 128
      · rw [putU_ge h]; simp
      · rw [putU_lt h]; simp
    have hlen : p + n < l.length := by
      have := congrArg List.length hd
      simp at this; omega
    have h2 := drop_getD hlen
    rw [hd] at h2
    obtain ⟨e1, e2⟩ := List.cons.inj h2
    rw [getL, if_neg (by omega), ← e1, if_neg (by omega), if_neg (by omega), if_neg (by omega)]
    exact getL_short l p j (n + 1) _ (v / 128) (by rw [show p + (n + 1) = p + n + 1 by omega, ← e2]) (by omega) (by omega)
theorem getI_short (n : Int) (j : Nat) (h : j < (putI n).length) : getI ((putI n).take j) 0 = (0, 0, 4) := by
  have hp := putI_len n
  rw [getI, if_neg (by omega)]
  exact getL_short _ 0 j 0 0 (zz n) (by simp [putI]) h (by unfold putI at hp; omega)
theorem getI_once (l : List Int) (hl : Bytes l) (h : (getI l 0).2.2 = 0) : ∃ m r, l = putI m ++ r ∧ getI l 0 = (m, ((putI m).length : Int), 0) := by
  rw [getI] at h ⊢
  rw [if_neg (by omega)] at h ⊢
  obtain ⟨v, r, h1, _, h3, h4⟩ := getL_back l hl 0 10 0 0 rfl (by decide) (by decide) h
  simp only [Nat.mul_zero, Nat.pow_zero, Nat.mul_one, Nat.zero_add, Nat.add_zero, List.drop_zero] at h1 h3 h4
  have hz := zz_unzig v (by omega)
  refine ⟨unzig (v : Int), r, by rw [putI, hz]; exact h1, ?_⟩
  rw [show Int.toNat 0 = 0 by rfl, putI, hz]
  exact h4
end Go.Proofs.Ytbahpkjfgoeohaa
