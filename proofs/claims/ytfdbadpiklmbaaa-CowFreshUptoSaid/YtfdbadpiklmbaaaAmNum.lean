/- AM: numbers: what fits, and numbers made of bytes. -/
import Derived.Test.YtfdbadpiklmbaaaAmSl
set_option linter.unusedSimpArgs false
set_option linter.unusedVariables false
set_option linter.unnecessarySimpa false
set_option maxRecDepth 100000
namespace Go.AM

theorem wi64 {n : Int} (h1 : -9223372036854775808 ≤ n) (h2 : n ≤ 9223372036854775807) : IntKind.i64.wrap n = n := wrap_i64 h1 h2
theorem wu64 {n : Int} (h1 : 0 ≤ n) (h2 : n ≤ 18446744073709551615) : IntKind.u64.wrap n = n := by rw [wrap_u64]; omega
theorem wu8 {n : Int} (h1 : 0 ≤ n) (h2 : n ≤ 255) : IntKind.u8.wrap n = n := by rw [wrap_u8]; omega
theorem wrap_u32 (n : Int) : IntKind.u32.wrap n = n % 4294967296 := by simp [IntKind.wrap, IntKind.bits, IntKind.signed]
theorem wu32 {n : Int} (h1 : 0 ≤ n) (h2 : n ≤ 4294967295) : IntKind.u32.wrap n = n := by rw [wrap_u32]; omega

/-- 'x[lo:hi]', bounds as whole numbers. -/
theorem IsSl.sliceI {α : Type} {r : Rep α} {S : Nat → Prop} {h : AHeap} {xs : List α} {a : Option Addr} {n cap : Nat} (hs : IsSl r S h xs (.slice a n cap)) (sz : Nat) (hsz : r.sz = sz) {l m : Int} (h0 : 0 ≤ l) (h1 : l ≤ m) (h2 : m ≤ n) :
    ∃ a' cap', slI sz a n cap (some l) (some m) = some (.slice a' (m.toNat - l.toNat) cap') ∧ IsSl r S h ((xs.drop l.toNat).take (m.toNat - l.toNat)) (.slice a' (m.toNat - l.toNat) cap') := by
  have := hs.slice sz hsz (l := l.toNat) (m := m.toNat) (by omega) (by omega)
  rwa [Int.toNat_of_nonneg h0, Int.toNat_of_nonneg (by omega)] at this

/-- Bytes as a number, the lowest first. -/
def leN : List Nat → Nat
  | [] => 0
  | b :: bs => b + 256 * leN bs

theorem leN_lt {bs : List Nat} (h : ∀ b ∈ bs, b < 256) : leN bs < 256 ^ bs.length := by
  induction bs with
  | nil => simp [leN]
  | cons b bs ih =>
    have h1 := ih (fun x hx => h x (by simp [hx]))
    have h2 := h b (by simp)
    simp only [leN, List.length_cons, Nat.pow_succ]
    omega

theorem leN_append (as bs : List Nat) : leN (as ++ bs) = leN as + 256 ^ as.length * leN bs := by
  induction as with
  | nil => simp [leN]
  | cons a as ih =>
    simp only [List.cons_append, leN, ih, List.length_cons, Nat.pow_succ, Nat.mul_add]
    rw [Nat.mul_comm (256 ^ as.length) 256, Nat.mul_assoc]
    omega

theorem pow256 (i : Nat) : (256 : Nat) ^ i = 2 ^ (8 * i) := by rw [Nat.pow_mul]

theorem leN_take {bs : List Nat} {i b : Nat} (hi : bs[i]? = some b) : leN (bs.take (i + 1)) = leN (bs.take i) + b * 2 ^ (8 * i) := by
  have hl : i < bs.length := (List.getElem?_eq_some_iff.1 hi).1
  rw [List.take_add_one, leN_append, hi, show (bs.take i).length = i by simp; omega, pow256]
  simp [leN, Nat.mul_comm]

theorem u64_or {n c k : Nat} (hk : n < 2 ^ k) (hn : n < 18446744073709551616) (hc : c * 2 ^ k < 18446744073709551616) :
    IntKind.u64.wrap (((BitVec.ofInt 64 (n : Int) ||| BitVec.ofInt 64 ((c * 2 ^ k : Nat) : Int)).toNat : Nat) : Int) = ((n + c * 2 ^ k : Nat) : Int) := by
  have e : (BitVec.ofInt 64 (n : Int) ||| BitVec.ofInt 64 ((c * 2 ^ k : Nat) : Int)).toNat = n + c * 2 ^ k := by
    rw [BitVec.ofInt_natCast, BitVec.ofInt_natCast, BitVec.toNat_or, BitVec.toNat_ofNat, BitVec.toNat_ofNat, Nat.mod_eq_of_lt hn, Nat.mod_eq_of_lt hc, Nat.or_comm, ← Nat.shiftLeft_eq, ← Nat.shiftLeft_add_eq_or_of_lt hk]
    omega
  have hlt : n + c * 2 ^ k < 18446744073709551616 := by
    rw [← e]; exact BitVec.isLt _
  rw [e, wrap_u64]; omega

/-- One byte more. -/
theorem le_step {bs : List Nat} (hb : ∀ b ∈ bs, b < 256) {i b : Nat} (hi : bs[i]? = some b) (h8 : i < 8) :
    IntKind.u64.wrap (((BitVec.ofInt 64 ((leN (bs.take i) : Nat) : Int) ||| BitVec.ofInt 64 (IntKind.u64.wrap ((b : Int) * 2 ^ (min (8 * i) 64)))).toNat : Nat) : Int) = ((leN (bs.take (i + 1)) : Nat) : Int) := by
  have hb256 : b < 256 := hb b (List.mem_of_getElem? hi)
  have hl : i < bs.length := (List.getElem?_eq_some_iff.1 hi).1
  have hlt2 : leN (bs.take i) < 2 ^ (8 * i) := by
    have := leN_lt (bs := bs.take i) (fun x hx => hb x (List.mem_of_mem_take hx))
    rw [pow256] at this
    rwa [show (bs.take i).length = i by simp; omega] at this
  have hp : 2 ^ (8 * i) ≤ 2 ^ 56 := Nat.pow_le_pow_right (by omega) (by omega)
  have hpow : b * 2 ^ (8 * i) < 18446744073709551616 := by
    calc b * 2 ^ (8 * i) ≤ b * 2 ^ 56 := Nat.mul_le_mul_left _ hp
      _ < 18446744073709551616 := by omega
  have e7 : IntKind.u64.wrap ((b : Int) * 2 ^ (min (8 * i) 64)) = ((b * 2 ^ (8 * i) : Nat) : Int) := by
    have ep : (2 : Int) ^ (8 * i) = ((2 ^ (8 * i) : Nat) : Int) := by simp
    rw [show min (8 * i) 64 = 8 * i by omega, ep, ← Int.natCast_mul, wrap_u64]
    omega
  rw [e7, leN_take hi]
  exact u64_or hlt2 (by omega) hpow

/-- The bytes of a number, the lowest first. -/
def leB : Nat → Nat → List Nat
  | 0, _ => []
  | k + 1, n => n % 256 :: leB k (n / 256)

theorem leB_length : ∀ (k n : Nat), (leB k n).length = k
  | 0, _ => rfl
  | k + 1, n => by simp [leB, leB_length k]
theorem leB_lt : ∀ (k n : Nat), ∀ b ∈ leB k n, b < 256
  | 0, _, b, h => by simp [leB] at h
  | k + 1, n, b, h => by
    rcases List.mem_cons.1 h with rfl | h
    · omega
    · exact leB_lt k _ b h
theorem leN_leB : ∀ (k n : Nat), n < 256 ^ k → leN (leB k n) = n
  | 0, n, h => by simp at h; simp [leB, leN, h]
  | k + 1, n, h => by
    rw [leB, leN, leN_leB k (n / 256) (by rw [Nat.pow_succ] at h; exact Nat.div_lt_of_lt_mul (by rw [Nat.mul_comm]; exact h))]
    omega
theorem leB_leN : ∀ (bs : List Nat), (∀ b ∈ bs, b < 256) → leB bs.length (leN bs) = bs
  | [], _ => rfl
  | b :: bs, h => by
    have h1 := h b (by simp)
    simp only [List.length_cons, leB, leN]
    rw [show (b + 256 * leN bs) % 256 = b by omega, show (b + 256 * leN bs) / 256 = leN bs by omega, leB_leN bs (fun x hx => h x (by simp [hx]))]
theorem leB_succ : ∀ (k n : Nat), leB (k + 1) n = leB k n ++ [n / 256 ^ k % 256]
  | 0, n => by simp [leB]
  | k + 1, n => by
    rw [leB, leB_succ k (n / 256), leB]
    simp [Nat.div_div_eq_div_mul, Nat.pow_succ, Nat.mul_comm]

theorem flat8 : ∀ (ns : List Nat), (ns.flatMap (leB 8)).length = 8 * ns.length
  | [] => rfl
  | n :: ns => by rw [List.flatMap_cons, List.length_append, leB_length, flat8 ns, List.length_cons]; omega

/-- The byte that is shifted out. -/
theorem shr_byte {n i : Nat} (hi : i < 8) : IntKind.u8.wrap ((n : Int).fdiv (2 ^ (min (8 * i) 64))) = ((n / 256 ^ i % 256 : Nat) : Int) := by
  have ep : (2 : Int) ^ (8 * i) = ((2 ^ (8 * i) : Nat) : Int) := by simp
  rw [show min (8 * i) 64 = 8 * i by omega, ep, wrap_u8, pow256, Int.fdiv_eq_ediv_of_nonneg _ (Int.natCast_nonneg _)]
  simp

end Go.AM
