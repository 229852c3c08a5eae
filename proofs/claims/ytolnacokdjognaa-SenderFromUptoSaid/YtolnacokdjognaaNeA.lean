/- net: sums. -/
import Derived.Test.YtolnacokdjognaaPkW
set_option linter.unusedSimpArgs false
set_option linter.unusedVariables false
set_option linter.unnecessarySimpa false
set_option maxRecDepth 100000
namespace Go.Proofs.Ytolnacokdjognaa
open Go.AM

def sstep (p : Nat × Nat) (x : Nat) : Nat × Nat := ((p.1 + x) % 65521, (p.2 + (p.1 + x) % 65521) % 65521)
def sumP (p : Nat × Nat) (bs : List Nat) : Nat × Nat := bs.foldl sstep p
/-- A sum, gone on with. -/
def sumN (s : Nat) (bs : List Nat) : Nat := (sumP (s % 65536 % 65521, s / 65536 % 65521) bs).2 * 65536 + (sumP (s % 65536 % 65521, s / 65536 % 65521) bs).1
theorem sumP_lt : ∀ (bs : List Nat) (p : Nat × Nat), p.1 < 65521 → p.2 < 65521 → (sumP p bs).1 < 65521 ∧ (sumP p bs).2 < 65521
  | [], p, h1, h2 => ⟨h1, h2⟩
  | x :: bs, p, h1, h2 => sumP_lt bs (sstep p x) (Nat.mod_lt _ (by decide)) (Nat.mod_lt _ (by decide))
theorem sumP_app (p : Nat × Nat) (a b : List Nat) : sumP p (a ++ b) = sumP (sumP p a) b := by simp [sumP]
theorem sumN_lt (s : Nat) (bs : List Nat) : sumN s bs < 4294967296 := by
  have := sumP_lt bs (s % 65536 % 65521, s / 65536 % 65521) (Nat.mod_lt _ (by decide)) (Nat.mod_lt _ (by decide))
  unfold sumN; omega

/-- How far the greater one comes within a part. -/
def hbd : Nat → Nat
  | 0 => 65520
  | j + 1 => hbd j + 65520 + 255 * (j + 1)
theorem hbd_eq : ∀ j, 2 * hbd j = 131040 * (j + 1) + 255 * (j * (j + 1))
  | 0 => rfl
  | j + 1 => by
    have := hbd_eq j
    have e : (j + 1) * (j + 1 + 1) = j * (j + 1) + 2 * (j + 1) := by rw [← Nat.add_mul]; exact Nat.mul_comm _ _
    unfold hbd
    rw [e]; omega
theorem hbd_le {j : Nat} (h : j ≤ 5552) : hbd j ≤ 4294967295 := by
  have := hbd_eq j
  have h2 : j * (j + 1) ≤ 5552 * 5553 := Nat.mul_le_mul h (by omega)
  omega
/-- Without taking it modulo. -/
def raw (q : Nat × Nat) (bs : List Nat) : Nat × Nat := bs.foldl (fun q x => (q.1 + x, q.2 + (q.1 + x))) q
theorem raw_mod : ∀ (bs : List Nat) (q p : Nat × Nat), q.1 % 65521 = p.1 → q.2 % 65521 = p.2 → (raw q bs).1 % 65521 = (sumP p bs).1 ∧ (raw q bs).2 % 65521 = (sumP p bs).2
  | [], _, _, h1, h2 => ⟨h1, h2⟩
  | x :: bs, q, p, h1, h2 => raw_mod bs _ (sstep p x) (by unfold sstep; dsimp only; omega) (by unfold sstep; dsimp only; omega)
theorem raw_snoc (q : Nat × Nat) (bs : List Nat) (x : Nat) : raw q (bs ++ [x]) = ((raw q bs).1 + x, (raw q bs).2 + ((raw q bs).1 + x)) := by simp [raw]
theorem raw_le {q : Nat × Nat} (h1 : q.1 ≤ 65520) (h2 : q.2 ≤ 65520) {bs : List Nat} (hb : ∀ x ∈ bs, x ≤ 255) : ∀ j, j ≤ bs.length → (raw q (bs.take j)).1 ≤ 65520 + 255 * j ∧ (raw q (bs.take j)).2 ≤ hbd j
  | 0, _ => ⟨by simpa [raw] using h1, by simpa [raw, hbd] using h2⟩
  | j + 1, hj => by
    obtain ⟨k1, k2⟩ := raw_le h1 h2 hb j (by omega)
    have hx : bs[j]? = some bs[j] := List.getElem?_eq_getElem (by omega)
    have := hb bs[j] (List.getElem_mem _)
    rw [List.take_add_one, hx]
    simp only [Option.toList_some, raw_snoc, hbd]
    omega
section
variable {h : AHeap} {S S' Z : Nat → Prop} {v : Value}
theorem and16 {s : Nat} (hs : s < 4294967296) : IntKind.u32.wrap (((BitVec.ofInt 32 (s : Int) &&& BitVec.ofInt 32 65535).toNat : Nat) : Int) = ((s % 65536 : Nat) : Int) := by
  have e : (BitVec.ofInt 32 (s : Int) &&& BitVec.ofInt 32 65535).toNat = s % 65536 := by
    rw [BitVec.ofInt_natCast, show (BitVec.ofInt 32 65535) = BitVec.ofNat 32 65535 from rfl, BitVec.toNat_and, BitVec.toNat_ofNat, BitVec.toNat_ofNat, Nat.mod_eq_of_lt hs, show (65535 % 2 ^ 32 : Nat) = 2 ^ 16 - 1 from rfl, Nat.and_two_pow_sub_one_eq_mod]
  rw [e, wu32] <;> omega
theorem fdiv16 (s : Nat) : ((s : Int).fdiv (2 ^ min 16 32)) = ((s / 65536 : Nat) : Int) := by
  rw [show ((2 : Int) ^ min 16 32) = ((65536 : Nat) : Int) from rfl, Int.fdiv_eq_ediv_of_nonneg _ (Int.natCast_nonneg _)]
  rfl
theorem or16 {a b : Nat} (ha : a < 65536) (hb : b < 65536) : IntKind.u32.wrap (((BitVec.ofInt 32 (IntKind.u32.wrap ((b : Int) * 2 ^ min 16 32)) ||| BitVec.ofInt 32 (a : Int)).toNat : Nat) : Int) = ((b * 65536 + a : Nat) : Int) := by
  have e0 : IntKind.u32.wrap ((b : Int) * 2 ^ min 16 32) = ((b * 65536 : Nat) : Int) := by
    rw [show ((2 : Int) ^ min 16 32) = ((65536 : Nat) : Int) from rfl, wu32] <;> omega
  have e : (BitVec.ofInt 32 ((b * 65536 : Nat) : Int) ||| BitVec.ofInt 32 (a : Int)).toNat = b * 65536 + a := by
    rw [BitVec.ofInt_natCast, BitVec.ofInt_natCast, BitVec.toNat_or, BitVec.toNat_ofNat, BitVec.toNat_ofNat, Nat.mod_eq_of_lt (by omega), Nat.mod_eq_of_lt (by omega), show b * 65536 = b <<< 16 from (Nat.shiftLeft_eq b 16).symm, ← Nat.shiftLeft_add_eq_or_of_lt (show a < 2 ^ 16 by omega)]
  rw [e0, e, wu32] <;> omega
theorem More_ok {s : Nat} {bs : List Nat} (hs : s < 4294967296) (hb : Bytes S h bs v) : Does Try.prog 74 #[.int .u32 (s : Nat), v] h (fun u h' => u = .int .u32 (sumN s bs : Nat) ∧ h' = h) := by
  obtain ⟨a, c, rfl⟩ := hb.shape
  have hlen := hb.len
  have t2 : Int.tmod ((s % 65536 : Nat) : Int) 65521 = ((s % 65536 % 65521 : Nat) : Int) := rfl
  have t4 : Int.tmod ((s / 65536 : Nat) : Int) 65521 = ((s / 65536 % 65521 : Nat) : Int) := rfl
  refine spec_go mixed Try.func74 rfl Try.results74 (n := Try.f74.ntmps) (by kernel_rfl) (by simp) ?_
  simp only [go_sem, simprocAttr, fdiv16, t4]
  have hlt := fun bs => sumP_lt bs (s % 65536 % 65521, s / 65536 % 65521) (Nat.mod_lt _ (by decide)) (Nat.mod_lt _ (by decide))
  have hN : sumN s bs = (sumP (s % 65536 % 65521, s / 65536 % 65521) bs).2 * 65536 + (sumP (s % 65536 % 65521, s / 65536 % 65521) bs).1 := rfl
  have hp1 : (s % 65536 % 65521, s / 65536 % 65521).1 = s % 65536 % 65521 := rfl
  have hp2 : (s % 65536 % 65521, s / 65536 % 65521).2 = s / 65536 % 65521 := rfl
  generalize (s % 65536 % 65521, s / 65536 % 65521) = p0 at hlt hN hp1 hp2
  rw [← hp2]
  refine go_loop (fun z ρ k => ∃ (i : Nat) (a : Option Addr) (c : Nat), i ≤ bs.length ∧ z = bs.length - i ∧ h = k ∧ Bytes S h (bs.drop i) (.slice a (bs.length - i) c) ∧ ρ 1 = .slice a (bs.length - i) c ∧ ρ 5 = .int .u32 ((sumP p0 (bs.take i)).1 : Nat) ∧ ρ 6 = .int .u32 ((sumP p0 (bs.take i)).2 : Nat)) bs.length ⟨0, a, c, by omega, by omega, rfl, by simpa using hb, by simp only [go_sem, simprocAttr]; rfl, by simp only [go_sem, simprocAttr]; exact congrArg (Value.int .u32) (((congrArg (Int.tmod · 65521) (and16 hs)).trans t2).trans (congrArg Nat.cast hp1.symm)), by simp only [go_sem, simprocAttr]; rfl⟩ ?_
  rintro z ρ k ⟨i, a, c, hi, rfl, rfl, hb', r1, r5, r6⟩
  clear hb
  have hlen' := hb'.len
  simp only [go_sem, simprocAttr, r1, r5, r6]
  refine cnd_decide (fun hy => ?_) (fun hy => ?_)
  · have h1 : i < bs.length := by omega
    have hm : ∃ n : Nat, min ((bs.length - i : Nat) : Int) 5552 = (n : Int) ∧ n ≤ 5552 ∧ n ≤ bs.length - i ∧ 0 < n := by
      refine ⟨min (bs.length - i) 5552, ?_, ?_, ?_, ?_⟩ <;> omega
    obtain ⟨n, hn, hn1, hn2, hn3⟩ := hm
    simp only [go_sem, simprocAttr, r1, r5, r6, hn]
    obtain ⟨a1, c1, e1, s1⟩ := hb'.slice 1 rfl (l := 0) (m := n) (by omega) (by omega)
    obtain ⟨a2, c2, e2, s2⟩ := hb'.slice 1 rfl (l := n) (m := bs.length - i) (by omega) (by omega)
    have e1 : slI 1 a (bs.length - i) c (some 0) (some (n : Int)) = some (.slice a1 n c1) := e1
    have s1 : Bytes S h ((bs.drop i).take n) (.slice a1 n c1) := s1
    have e3 : (bs.length - i) - n = bs.length - (i + n) := by omega
    rw [e3, List.drop_drop, List.take_of_length_le (by simp)] at s2
    rw [e3] at e2
    simp only [go_sem, simprocAttr, r1, r5, r6, hn, e1]
    have hq : ∀ x ∈ (bs.drop i).take n, x ≤ 255 := fun x hx => by have := s1.vals rfl x hx; rw [u8_max] at this; omega
    obtain ⟨l1, l2⟩ := hlt (bs.take i)
    have et : sumP p0 (bs.take (i + n)) = sumP (sumP p0 (bs.take i)) ((bs.drop i).take n) := by rw [← sumP_app, List.take_add]
    generalize sumP p0 (bs.take i) = q at l1 l2 et r5 r6
    generalize (bs.drop i).take n = cs at et s1 hq
    have hcs : n = cs.length := s1.len.1
    refine go_loop (fun z ρ' k => ∃ j : Nat, j ≤ n ∧ z = n - j ∧ h = k ∧ ρ' 1 = .slice a (bs.length - i) c ∧ ρ' 7 = .int .i64 n ∧ ρ' 24 = .slice a1 n c1 ∧ ρ' 25 = .int .i64 n ∧ ρ' 26 = .int .i64 j ∧ ρ' 5 = .int .u32 ((raw q (cs.take j)).1 : Nat) ∧ ρ' 6 = .int .u32 ((raw q (cs.take j)).2 : Nat)) n ⟨0, by omega, by omega, rfl, by simp only [go_sem, simprocAttr, r1], by simp only [go_sem, simprocAttr], by simp only [go_sem, simprocAttr], by simp only [go_sem, simprocAttr], by simp only [go_sem, simprocAttr], by simp only [go_sem, simprocAttr, r5]; rfl, by simp only [go_sem, simprocAttr, r6]; rfl⟩ ?_
    rintro z ρ' k ⟨j, hj, rfl, rfl, y1, y7, y24, y25, y26, y5, y6⟩
    simp only [go_sem, simprocAttr, y1, y7, y24, y25, y26, y5, y6]
    refine cnd_decide (fun hy => ?_) (fun hy => ?_)
    · have g1 : j < n := by omega
      obtain ⟨b, off, sp, cc, md, x, hA, _, hg, hxi, hx, hcc⟩ := s1.atN g1
      have hx8 : x ≤ 255 := by rw [u8_max] at hx; omega
      have hw := raw_le (q := q) (by omega) (by omega) hq (j + 1) (by omega)
      have hbd := hbd_le (show j + 1 ≤ 5552 by omega)
      rw [List.take_add_one, hxi, Option.toList_some, raw_snoc] at hw
      have es : raw q (cs.take (j + 1)) = ((raw q (cs.take j)).1 + x, (raw q (cs.take j)).2 + ((raw q (cs.take j)).1 + x)) := by rw [List.take_add_one, hxi, Option.toList_some, raw_snoc]
      generalize raw q (cs.take j) = w at es hw y5 y6
      dsimp only at hw
      have c1 : IntKind.u32.wrap (x : Int) = x := by rw [wu32] <;> omega
      have c2 : IntKind.u32.wrap ((w.1 : Int) + x) = ((w.1 + x : Nat) : Int) := by rw [wu32] <;> omega
      have c3 : IntKind.u32.wrap ((w.2 : Int) + ((w.1 + x : Nat) : Int)) = ((w.2 + (w.1 + x) : Nat) : Int) := by rw [wu32] <;> omega
      have e9 : IntKind.i64.wrap ((j : Int) + 1) = ((j + 1 : Nat) : Int) := by rw [wi64] <;> omega
      simp only [go_sem, simprocAttr, y1, y7, y24, y25, y26, y5, y6, hA, hg, hcc, g1, c1, c2, c3, e9]
      refine Hold.mk ⟨n - (j + 1), by omega, j + 1, by omega, rfl, rfl, ?_⟩
      rw [es]
      simp only [go_sem, simprocAttr, y1, y7, y24, y25, hA]
    · have hj' : j = cs.length := by omega
      subst hj'
      rw [List.take_length] at y5 y6
      obtain ⟨m1, m2⟩ := raw_mod cs q q (by omega) (by omega)
      rw [← et] at m1 m2
      generalize raw q cs = w at m1 m2 y5 y6
      have c1 : Int.tmod (w.1 : Int) 65521 = ((w.1 % 65521 : Nat) : Int) := rfl
      have c2 : Int.tmod (w.2 : Int) 65521 = ((w.2 % 65521 : Nat) : Int) := rfl
      simp only [go_sem, simprocAttr, y1, y7, y5, y6, c1, c2, m1, m2, e2]
      refine Hold.mk ⟨bs.length - (i + n), by omega, i + n, a2, _, by omega, rfl, rfl, s2, ?_⟩
      simp only [go_sem, simprocAttr]
  · have hi' : i = bs.length := by omega
    subst hi'
    rw [List.take_length] at r5 r6
    obtain ⟨l1, l2⟩ := hlt bs
    generalize sumP p0 bs = q at l1 l2 hN r5 r6
    simp only [go_sem, simprocAttr, r5, r6, hN]
    exact congrArg (Value.int .u32) (or16 (show q.1 < 65536 by omega) (show q.2 < 65536 by omega))
end
end Go.Proofs.Ytolnacokdjognaa
