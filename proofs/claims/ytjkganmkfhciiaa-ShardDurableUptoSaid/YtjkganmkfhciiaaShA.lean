/- shard: ops, and numbers that are copied. -/
import Derived.Test.YtjkganmkfhciiaaCoR
set_option linter.unusedSimpArgs false
set_option linter.unusedVariables false
set_option linter.unnecessarySimpa false
set_option maxRecDepth 100000
namespace Go.Proofs.Ytjkganmkfhciiaa
open Go.AM
def inJ (x : Int) : Prop := -9223372036854775808 ≤ x ∧ x ≤ 9223372036854775807
theorem int_all2 {k : IntKind} {S : Nat → Prop} {h : AHeap} {xs : List Int} (hx : ∀ n ∈ xs, k.min ≤ n ∧ n ≤ k.max) : All2 ((Rep.int k).R S h) xs (xs.map fun n => [.int k n]) := .of_map _ fun x h => ⟨rfl, hx x h⟩
theorem int_flat {k : IntKind} (xs : List Int) : (xs.map fun n => ([.int k n] : List Value)).flatten = xs.map fun n => .int k n := by
  induction xs with
  | nil => rfl
  | cons x xs ih => simp [ih]
/-- What is done to a volume. -/
structure Bop where
  kd : Int
  off : Int
  ln : Int
  data : List Nat
deriving DecidableEq
def Bop.cs (o : Bop) (v : Value) : List Value := [.int .i64 o.kd, .int .i64 o.off, .int .i64 o.ln, v]
def Bop.zero : Bop := ⟨0, 0, 0, []⟩
def rBop : Rep Bop := (Rep.pair rI (.pair rI (.pair rI rW.list))).via fun o => (o.kd, o.off, o.ln, o.data)
def Bop.inI (o : Bop) : Prop := inJ o.kd ∧ inJ o.off ∧ inJ o.ln
theorem rBop_iff {S : Nat → Prop} {h : AHeap} {m : Bop} {cs : List Value} : rBop.R S h m cs ↔ ∃ v, cs = m.cs v ∧ m.inI ∧ Words S h m.data v := by
  constructor
  · rintro ⟨c1, c2, rfl, ⟨rfl, h1⟩, c3, c4, rfl, ⟨rfl, h2⟩, c5, c6, rfl, ⟨rfl, h3⟩, v, rfl, hv⟩
    exact ⟨v, rfl, ⟨h1, h2, h3⟩, hv⟩
  · rintro ⟨v, rfl, ⟨h1, h2, h3⟩, hv⟩
    exact ⟨_, _, rfl, ⟨rfl, h1⟩, _, _, rfl, ⟨rfl, h2⟩, _, _, rfl, ⟨rfl, h3⟩, v, rfl, hv⟩
theorem bo_len (m : Bop) (v : Value) : (m.cs v).length = 4 := rfl
theorem bo_one (m : Bop) (a : Option Addr) (n c : Nat) : (m.cs (.slice a n c)).all one = true := rfl
theorem bo_take (m : Bop) (v : Value) : (m.cs v).take 4 = m.cs v := rfl
theorem bo_put (m : Bop) (v : Value) : putCells [.int .i64 0, .int .i64 0, .int .i64 0, .slice none 0 0] 0 (m.cs v) = m.cs v := rfl
theorem bo_0 (m : Bop) (v : Value) : (m.cs v)[0]? = some (.int .i64 m.kd) := rfl
theorem bo_1 (m : Bop) (v : Value) : (m.cs v)[1]? = some (.int .i64 m.off) := rfl
theorem bo_2 (m : Bop) (v : Value) : (m.cs v)[2]? = some (.int .i64 m.ln) := rfl
theorem bo_3 (m : Bop) (v : Value) : (m.cs v)[3]? = some v := rfl
theorem IsSl.atO {S : Nat → Prop} {h : AHeap} {xs : List Bop} {a : Option Addr} {n cap : Nat} (hs : IsSl rBop S h xs (.slice a n cap)) {i : Nat} (hi : i < n) :
    ∃ b off sp c md x lv, a = some ⟨b, off, sp⟩ ∧ S b ∧ h.get b = .cells c md ∧ xs[i]? = some x ∧ Words S h x.data lv ∧ x.inI ∧ off + i * 4 + 4 ≤ c.length ∧ (c.drop (off + i * 4)).take 4 = x.cs lv := by
  obtain ⟨b, off, sp, c, md, cs, x, h1, h2, h3, h4, h5, h6, h7⟩ := hs.at 4 rfl hi
  obtain ⟨lv, rfl, h8, h9⟩ := rBop_iff.1 h5
  exact ⟨b, off, sp, c, md, x, lv, h1, h2, h3, h4, h9, h8, h6, h7⟩
def Bop.rng (o : Bop) : Int × Int := if o.kd = 1 then (o.off, o.data.length) else if o.kd = 2 then (o.off, o.ln) else (0, 0)
def Bop.fits (n : Int) (o : Bop) : Prop :=
  (0 ≤ n ∧ n ≤ 1024 ∧ 1 ≤ o.rng.2 ∧ 0 ≤ o.rng.1 ∧ o.rng.2 ≤ n ∧ o.rng.1 ≤ n - o.rng.2) ∧ ((o.kd = 2 ∧ o.data.length = 0) ∨ (o.kd = 1 ∧ o.ln = 0 ∧ o.rng.2 ≤ 64))
instance (n : Int) (o : Bop) : Decidable (o.fits n) := inferInstanceAs (Decidable (_ ∧ _))
section
variable {h : AHeap} {S S' Z : Nat → Prop} {v w : Value}
/-- Numbers that are copied. -/
theorem cloneW_ok {bs : List Nat} (hb : Words S h bs v) (hn : bs.length ≤ 1099511627776) :
    Does Try.prog 40 #[v] h (fun u h' => h.quiet h' ∧ Lst rW h.next (fun _ => False) h' bs u) := by
  obtain ⟨a, cap, rfl⟩ := hb.shape
  refine spec_go mixed Try.func40 rfl Try.results40 (n := Try.f40.ntmps) (by kernel_rfl) (by simp) ?_
  rcases a with _ | ad
  · have hl := hb.len
    have h0 : bs = [] := by obtain ⟨a', cap', css, e, h1, h2, h3, _⟩ := hb; cases e; have := h3 rfl; exact List.eq_nil_of_length_eq_zero (by omega)
    subst h0
    simp only [go_sem, simprocAttr]
    first | exact ⟨.refl _, .nil _ _ _ _⟩ | exact .nil _ _ _ _
  · have hq : h.quiet (h.push (.cells [] .rw)) := .push _ _
    obtain ⟨css, e1, ha⟩ := (hb.quiet hq).acells 1 rfl
    simp only [go_sem, simprocAttr, e1, ha.ones, List.length_nil]
    obtain ⟨u, h', e, hl, hf, _⟩ := (Lst.empty rW (lo := h.next) (T := fun _ => False) (h := h.push (.cells [] .rw)) (b := h.next) (o := 0) (Nat.le_refl _) (by simp)).app 1 rfl (bytes := 8) (n := bs.length)
      (nat_all2 (fun n hn => by have := hb.vals rfl n hn; exact this)) rfl (by simp; omega) (by simp; omega) (by simp)
    rw [nat_flat, ← (nat_cells ha).1] at e
    simp only [go_sem, simprocAttr, e]
    exact ⟨Fw.behind hq hf (fun j hj => by simp at hj; omega), hl⟩
/-- Whole numbers that are copied. -/
theorem cloneI_ok {bs : List Int} (hb : Ints S h bs v) (hn : bs.length ≤ 1099511627776) :
    Does Try.prog 33 #[v] h (fun u h' => h.quiet h' ∧ Lst rI h.next (fun _ => False) h' bs u) := by
  obtain ⟨a, cap, rfl⟩ := hb.shape
  refine spec_go mixed Try.func33 rfl Try.results33 (n := Try.f33.ntmps) (by kernel_rfl) (by simp) ?_
  rcases a with _ | ad
  · have hl := hb.len
    have h0 : bs = [] := by obtain ⟨a', cap', css, e, h1, h2, h3, _⟩ := hb; cases e; have := h3 rfl; exact List.eq_nil_of_length_eq_zero (by omega)
    subst h0
    simp only [go_sem, simprocAttr]
    first | exact ⟨.refl _, .nil _ _ _ _⟩ | exact .nil _ _ _ _
  · have hq : h.quiet (h.push (.cells [] .rw)) := .push _ _
    obtain ⟨css, e1, ha⟩ := (hb.quiet hq).acells 1 rfl
    simp only [go_sem, simprocAttr, e1, ha.ones, List.length_nil]
    obtain ⟨u, h', e, hl, hf, _⟩ := (Lst.empty rI (lo := h.next) (T := fun _ => False) (h := h.push (.cells [] .rw)) (b := h.next) (o := 0) (Nat.le_refl _) (by simp)).app 1 rfl (bytes := 8) (n := bs.length)
      (int_all2 hb.ints) rfl (by simp; omega) (by simp; omega) (by simp)
    rw [int_flat, ← (int_cells ha).1] at e
    simp only [go_sem, simprocAttr, e]
    exact ⟨Fw.behind hq hf (fun j hj => by simp at hj; omega), hl⟩
theorem Range_ok {o : Bop} (hv : Words S h o.data v) : Does Try.prog 49 #[.agg (o.cs v).toArray] h (fun u h' => u = .tuple #[.int .i64 o.rng.1, .int .i64 o.rng.2] ∧ h.quiet h') := by
  obtain ⟨a, c, rfl⟩ := hv.shape
  refine spec_go mixed Try.func49 rfl Try.results49 (n := Try.f49.ntmps) (by kernel_rfl) (by simp) ?_
  simp only [go_sem, simprocAttr, bo_len, bo_one, bo_take, bo_put, bo_0]
  unfold Bop.rng
  by_cases k1 : o.kd = 1
  · simp only [go_sem, simprocAttr, k1, eq_self, decide_true, bo_1, bo_3, if_true]
    all_goals exact .push _ _
  · by_cases k2 : o.kd = 2
    · simp only [go_sem, simprocAttr, k1, k2, eq_self, decide_true, decide_false, bo_1, bo_2, if_true, if_false]
      all_goals exact .push _ _
    · simp only [go_sem, simprocAttr, k1, k2, decide_true, decide_false, if_false]
      all_goals exact .push _ _
theorem lies_ok {n i k : Int} (h0 : inJ n) (h1 : inJ i) (h2 : inJ k) : Does Try.prog 43 #[.int .i64 n, .int .i64 i, .int .i64 k] h (fun u h' => u = .bool (decide (0 ≤ i ∧ 0 ≤ k ∧ k ≤ n ∧ i ≤ n - k)) ∧ h' = h) := by
  refine spec_go mixed Try.func43 rfl Try.results43 (n := Try.f43.ntmps) (by kernel_rfl) (by simp) ?_
  simp only [go_sem, simprocAttr]
  by_cases c1 : 0 ≤ i
  · by_cases c2 : 0 ≤ k
    · by_cases c3 : k ≤ n
      · have e : IntKind.i64.wrap (n - k) = n - k := by have := h0.2; rw [wi64] <;> omega
        simp only [go_sem, simprocAttr, c1, c2, c3, decide_true, e, true_and]
      · simp only [go_sem, simprocAttr, c1, c2, c3, decide_true, decide_false, true_and, false_and]
    · simp only [go_sem, simprocAttr, c1, c2, decide_true, decide_false, true_and, false_and]
  · simp only [go_sem, simprocAttr, c1, decide_true, decide_false, true_and, false_and]
theorem rng_inJ {o : Bop} (hi : o.inI) (hl : o.data.length ≤ 9223372036854775807) : inJ o.rng.1 ∧ inJ o.rng.2 := by
  unfold Bop.rng
  split
  · exact ⟨hi.2.1, by simp only; unfold inJ; omega⟩
  · split
    · exact ⟨hi.2.1, hi.2.2⟩
    · exact ⟨by unfold inJ; simp, by unfold inJ; simp⟩
theorem bright_ok {o : Bop} {n : Int} (hi : o.inI) (hn : inJ n) (hv : Words S h o.data v) : Does Try.prog 39 #[.int .i64 n, .agg (o.cs v).toArray] h (fun u h' => u = .bool (decide (o.fits n)) ∧ h.quiet h') := by
  obtain ⟨a, c, rfl⟩ := hv.shape
  have hl := hv.len
  obtain ⟨j1, j2⟩ := rng_inJ hi hl.2.1
  have hno : ¬ o.fits n → Value.bool false = Value.bool (decide (o.fits n)) := fun e => by rw [decide_eq_false e]
  have hyes : o.fits n → Value.bool true = Value.bool (decide (o.fits n)) := fun e => by rw [decide_eq_true e]
  refine spec_go mixed Try.func39 rfl Try.results39 (n := Try.f39.ntmps) (by kernel_rfl) (by simp) ?_
  simp only [go_sem, simprocAttr, bo_len, bo_one, bo_take, bo_put]
  have q0 : h.quiet (h.push (.cells (o.cs (.slice a o.data.length c)) .rw)) := .push _ _
  have g0 : (h.push (.cells (o.cs (.slice a o.data.length c)) .rw)).get h.next = .cells (o.cs (.slice a o.data.length c)) .rw := by simp
  generalize h.push (.cells (o.cs (.slice a o.data.length c)) .rw) = k at q0 g0
  refine cl_spec (Range_ok (hv.quiet q0)) (fun u h' hp _ => hp.2) ?_
  rintro u k1 ⟨rfl, q1⟩
  have g1 := (q1.2 _ (AHeap.lt_of_alive k (by rw [g0]; simp))).trans g0
  have q01 := q0.trans q1
  have hr : ∀ q, (q ↔ o.fits n) → ∀ [Decidable q], Value.bool (decide q) = Value.bool (decide (o.fits n)) := fun q e _ => congrArg Value.bool (decide_eq_decide.2 e)
  obtain ⟨x, hx⟩ : ∃ x, o.rng.1 = x := ⟨_, rfl⟩
  obtain ⟨y, hy⟩ : ∃ y, o.rng.2 = y := ⟨_, rfl⟩
  have hf : o.fits n ↔ (0 ≤ n ∧ n ≤ 1024 ∧ 1 ≤ y ∧ 0 ≤ x ∧ y ≤ n ∧ x ≤ n - y) ∧ ((o.kd = 2 ∧ o.data.length = 0) ∨ (o.kd = 1 ∧ o.ln = 0 ∧ y ≤ 64)) := by unfold Bop.fits; rw [hx, hy]
  rw [hx, hy]
  rw [hx] at j1
  rw [hy] at j2
  simp only [go_sem, simprocAttr]
  by_cases c1 : n < 0
  · simp only [go_sem, simprocAttr, c1, decide_true]
    exact ⟨hno (by rw [hf]; omega), q01⟩
  · by_cases c2 : 1024 < n
    · simp only [go_sem, simprocAttr, c1, c2, decide_true, decide_false]
      exact ⟨hno (by rw [hf]; omega), q01⟩
    · by_cases c3 : y < 1
      · simp only [go_sem, simprocAttr, c1, c2, c3, decide_true, decide_false]
        exact ⟨hno (by rw [hf]; omega), q01⟩
      · simp only [go_sem, simprocAttr, c1, c2, c3, decide_true, decide_false]
        refine cl_spec (lies_ok hn j1 j2) (fun _ _ _ hc => absurd hc (by decide +kernel)) ?_
        rintro u k2 ⟨rfl, rfl⟩
        by_cases c4 : 0 ≤ x ∧ 0 ≤ y ∧ y ≤ n ∧ x ≤ n - y
        · simp only [go_sem, simprocAttr, decide_eq_true c4, g1, bo_0]
          by_cases k1 : o.kd = 2
          · by_cases c5 : o.data.length = 0
            · have c5' : (o.data.length : Int) = 0 := by omega
              simp only [go_sem, simprocAttr, k1, c5', eq_self, decide_true, g1, bo_3]
              exact ⟨hyes (by rw [hf]; omega), q01⟩
            · have c5' : ¬ (o.data.length : Int) = 0 := by omega
              have k1' : ¬ o.kd = 1 := by omega
              simp only [go_sem, simprocAttr, k1, c5', eq_self, decide_true, decide_false, g1, bo_3, bo_0]
              exact ⟨hno (by rw [hf]; omega), q01⟩
          · by_cases k2 : o.kd = 1
            · by_cases c6 : o.ln = 0
              · simp only [go_sem, simprocAttr, k1, k2, c6, eq_self, decide_true, decide_false, g1, bo_3, bo_0, bo_2]
                exact ⟨hr _ (by rw [hf]; omega), q01⟩
              · simp only [go_sem, simprocAttr, k1, k2, c6, eq_self, decide_true, decide_false, g1, bo_3, bo_0, bo_2]
                exact ⟨hno (by rw [hf]; omega), q01⟩
            · simp only [go_sem, simprocAttr, k1, k2, eq_self, decide_true, decide_false, g1, bo_3, bo_0, bo_2]
              exact ⟨hno (by rw [hf]; omega), q01⟩
        · simp only [go_sem, simprocAttr, decide_eq_false c4]
          exact ⟨hno (by rw [hf]; omega), q01⟩
end
end Go.Proofs.Ytjkganmkfhciiaa
