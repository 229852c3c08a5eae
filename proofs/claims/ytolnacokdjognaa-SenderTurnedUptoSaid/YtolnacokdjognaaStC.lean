/- stream: what is wrong with records. -/
import Derived.Test.YtolnacokdjognaaStB
set_option linter.unusedSimpArgs false
set_option linter.unusedVariables false
set_option linter.unnecessarySimpa false
set_option maxRecDepth 100000
namespace Go.Proofs.Ytolnacokdjognaa
open Go.AM

/-- What is done to a volume. -/
structure Bop where
  kd : Int
  off : Int
  ln : Int
  data : List Nat
deriving DecidableEq
def Bop.cs (o : Bop) (v : Value) : List Value := [.int .i64 o.kd, .int .i64 o.off, .int .i64 o.ln, v]
def Bop.zero : Bop := ⟨0, 0, 0, []⟩
def rBop : Rep Bop := (Rep.pair rI (.pair rI (.pair rI rW.list))).via fun o => (o.kd, o.off, o.ln, o.data)
def Bop.inI (o : Bop) : Prop := inJ o.kd ∧ inJ o.off ∧ inJ o.ln
theorem rBop_iff {S : Nat → Prop} {h : AHeap} {m : Bop} {cs : List Value} : rBop.R S h m cs ↔ ∃ v, cs = m.cs v ∧ m.inI ∧ Words S h m.data v := by
  constructor
  · rintro ⟨c1, c2, rfl, ⟨rfl, h1⟩, c3, c4, rfl, ⟨rfl, h2⟩, c5, c6, rfl, ⟨rfl, h3⟩, v, rfl, hv⟩
    exact ⟨v, rfl, ⟨h1, h2, h3⟩, hv⟩
  · rintro ⟨v, rfl, ⟨h1, h2, h3⟩, hv⟩
    exact ⟨_, _, rfl, ⟨rfl, h1⟩, _, _, rfl, ⟨rfl, h2⟩, _, _, rfl, ⟨rfl, h3⟩, v, rfl, hv⟩
theorem bo_len (m : Bop) (v : Value) : (m.cs v).length = 4 := rfl
theorem bo_one (m : Bop) (a : Option Addr) (n c : Nat) : (m.cs (.slice a n c)).all one = true := rfl
theorem bo_take (m : Bop) (v : Value) : (m.cs v).take 4 = m.cs v := rfl
theorem bo_put (m : Bop) (v : Value) : putCells [.int .i64 0, .int .i64 0, .int .i64 0, .slice none 0 0] 0 (m.cs v) = m.cs v := rfl
theorem bo_0 (m : Bop) (v : Value) : (m.cs v)[0]? = some (.int .i64 m.kd) := rfl
theorem bo_1 (m : Bop) (v : Value) : (m.cs v)[1]? = some (.int .i64 m.off) := rfl
theorem bo_2 (m : Bop) (v : Value) : (m.cs v)[2]? = some (.int .i64 m.ln) := rfl
theorem bo_3 (m : Bop) (v : Value) : (m.cs v)[3]? = some v := rfl
theorem IsSl.atO {S : Nat → Prop} {h : AHeap} {xs : List Bop} {a : Option Addr} {n cap : Nat} (hs : IsSl rBop S h xs (.slice a n cap)) {i : Nat} (hi : i < n) :
    ∃ b off sp c md x lv, a = some ⟨b, off, sp⟩ ∧ S b ∧ h.get b = .cells c md ∧ xs[i]? = some x ∧ Words S h x.data lv ∧ x.inI ∧ off + i * 4 + 4 ≤ c.length ∧ (c.drop (off + i * 4)).take 4 = x.cs lv := by
  obtain ⟨b, off, sp, c, md, cs, x, h1, h2, h3, h4, h5, h6, h7⟩ := hs.at 4 rfl hi
  obtain ⟨lv, rfl, h8, h9⟩ := rBop_iff.1 h5
  exact ⟨b, off, sp, c, md, x, lv, h1, h2, h3, h4, h9, h8, h6, h7⟩
/-- The op of a record. -/
def Rec.op (r : Rec) : Bop := ⟨IntKind.i64.wrap (IntKind.i64.wrap (r.kd - 2) + 1), r.of_, r.ln, r.data⟩
def Bop.rng (o : Bop) : Int × Int := if o.kd = 1 then (o.off, o.data.length) else if o.kd = 2 then (o.off, o.ln) else (0, 0)
def Bop.fits (n : Int) (o : Bop) : Prop :=
  (0 ≤ n ∧ n ≤ 1024 ∧ 1 ≤ o.rng.2 ∧ 0 ≤ o.rng.1 ∧ o.rng.2 ≤ n ∧ o.rng.1 ≤ n - o.rng.2) ∧ ((o.kd = 2 ∧ o.data.length = 0) ∨ (o.kd = 1 ∧ o.ln = 0 ∧ o.rng.2 ≤ 64))
instance (n : Int) (o : Bop) : Decidable (o.fits n) := inferInstanceAs (Decidable (_ ∧ _))
section
variable {h : AHeap} {S S' Z : Nat → Prop} {v w : Value}
/-- Numbers that are copied. -/
theorem cloneW_ok {bs : List Nat} (hb : Words S h bs v) (hn : bs.length ≤ 1099511627776) :
    Does Try.prog 32 #[v] h (fun u h' => h.quiet h' ∧ Lst rW h.next (fun _ => False) h' bs u) := by
  obtain ⟨a, cap, rfl⟩ := hb.shape
  refine spec_go mixed Try.func32 rfl Try.results32 (n := Try.f32.ntmps) (by kernel_rfl) (by simp) ?_
  rcases a with _ | ad
  · have hl := hb.len
    have h0 : bs = [] := by obtain ⟨a', cap', css, e, h1, h2, h3, _⟩ := hb; cases e; have := h3 rfl; exact List.eq_nil_of_length_eq_zero (by omega)
    subst h0
    simp only [go_sem, simprocAttr]
    first | exact ⟨.refl _, .nil _ _ _ _⟩ | exact .nil _ _ _ _
  · have hq : h.quiet (h.push (.cells [] .rw)) := .push _ _
    obtain ⟨css, e1, ha⟩ := (hb.quiet hq).acells 1 rfl
    simp only [go_sem, simprocAttr, e1, ha.ones, List.length_nil]
    obtain ⟨u, h', e, hl, hf, _⟩ := (Lst.empty rW (lo := h.next) (T := fun _ => False) (h := h.push (.cells [] .rw)) (b := h.next) (o := 0) (Nat.le_refl _) (by simp)).app 1 rfl (bytes := 8) (n := bs.length)
      (nat_all2 (fun n hn => by have := hb.vals rfl n hn; exact this)) rfl (by simp; omega) (by simp; omega) (by simp)
    rw [nat_flat, ← (nat_cells ha).1] at e
    simp only [go_sem, simprocAttr, e]
    exact ⟨Fw.behind hq hf (fun j hj => by simp at hj; omega), hl⟩
theorem sop_ok {m : Rec} (hv : Words S h m.data v) (hn : m.data.length ≤ 1099511627776) : Does Try.prog 58 #[.agg (m.cs v).toArray] h (fun u h' => h.quiet h' ∧ ∃ w, u = .agg (m.op.cs w).toArray ∧ Words (h.next ≤ ·) h' m.data w) := by
  obtain ⟨a, c, rfl⟩ := hv.shape
  refine spec_go mixed Try.func58 rfl Try.results58 (n := Try.f58.ntmps) (by kernel_rfl) (by simp) ?_
  simp only [go_sem, simprocAttr, rc_len, rc_one, rc_take, rc_put, rc_0, rc_5, rc_6, rc_7]
  have hb1 : ((h.push (.cells (m.cs (.slice a m.data.length c)) .rw)).push (.cells [.int .i64 0, .int .i64 0, .int .i64 0, .slice none 0 0] .rw)).get (h.next + 1) = .cells [.int .i64 0, .int .i64 0, .int .i64 0, .slice none 0 0] .rw := by simp only [go_sem, simprocAttr]
  have q0 : h.quiet ((h.push (.cells (m.cs (.slice a m.data.length c)) .rw)).push (.cells [.int .i64 0, .int .i64 0, .int .i64 0, .slice none 0 0] .rw)) := by simp only [go_sem, simprocAttr]
  have n0 : ((h.push (.cells (m.cs (.slice a m.data.length c)) .rw)).push (.cells [.int .i64 0, .int .i64 0, .int .i64 0, .slice none 0 0] .rw)).next = h.next + 2 := by simp
  generalize (h.push (.cells (m.cs (.slice a m.data.length c)) .rw)).push (.cells [.int .i64 0, .int .i64 0, .int .i64 0, .slice none 0 0] .rw) = k at hb1 q0 n0
  refine cl_spec (cloneW_ok (hv.quiet q0) hn) (fun u h' hp _ => hp.1) ?_
  rintro u k1 ⟨q1, hl⟩
  have hb2 := (q1.2 _ (by omega)).trans hb1
  have hlt := AHeap.lt_of_alive k1 (i := h.next + 1) (by rw [hb2]; simp)
  obtain ⟨au, cu, rfl, _⟩ := hl.len
  simp only [go_sem, simprocAttr, hb2, AHeap.get_set_self _ _ hlt]
  refine ⟨(q0.trans q1).set' (by omega) _, _, rfl, ((hl.isSl (S := (k.next ≤ ·)) (fun _ e _ => e.elim) (fun _ e => e)).fr (Fw.set (id := h.next + 1) _) (fun j hj _ => by omega)).weaken fun j hj => by omega⟩
theorem Range_ok {o : Bop} (hv : Words S h o.data v) : Does Try.prog 57 #[.agg (o.cs v).toArray] h (fun u h' => u = .tuple #[.int .i64 o.rng.1, .int .i64 o.rng.2] ∧ h.quiet h') := by
  obtain ⟨a, c, rfl⟩ := hv.shape
  refine spec_go mixed Try.func57 rfl Try.results57 (n := Try.f57.ntmps) (by kernel_rfl) (by simp) ?_
  simp only [go_sem, simprocAttr, bo_len, bo_one, bo_take, bo_put, bo_0]
  unfold Bop.rng
  by_cases k1 : o.kd = 1
  · simp only [go_sem, simprocAttr, k1, eq_self, decide_true, bo_1, bo_3, if_true]
    all_goals exact .push _ _
  · by_cases k2 : o.kd = 2
    · simp only [go_sem, simprocAttr, k1, k2, eq_self, decide_true, decide_false, bo_1, bo_2, if_true, if_false]
      all_goals exact .push _ _
    · simp only [go_sem, simprocAttr, k1, k2, decide_true, decide_false, if_false]
      all_goals exact .push _ _
theorem lies_ok {n i k : Int} (h0 : inJ n) (h1 : inJ i) (h2 : inJ k) : Does Try.prog 73 #[.int .i64 n, .int .i64 i, .int .i64 k] h (fun u h' => u = .bool (decide (0 ≤ i ∧ 0 ≤ k ∧ k ≤ n ∧ i ≤ n - k)) ∧ h' = h) := by
  refine spec_go mixed Try.func73 rfl Try.results73 (n := Try.f73.ntmps) (by kernel_rfl) (by simp) ?_
  simp only [go_sem, simprocAttr]
  by_cases c1 : 0 ≤ i
  · by_cases c2 : 0 ≤ k
    · by_cases c3 : k ≤ n
      · have e : IntKind.i64.wrap (n - k) = n - k := by have := h0.2; rw [wi64] <;> omega
        simp only [go_sem, simprocAttr, c1, c2, c3, decide_true, e, true_and]
      · simp only [go_sem, simprocAttr, c1, c2, c3, decide_true, decide_false, true_and, false_and]
    · simp only [go_sem, simprocAttr, c1, c2, decide_true, decide_false, true_and, false_and]
  · simp only [go_sem, simprocAttr, c1, decide_true, decide_false, true_and, false_and]
theorem rng_inJ {o : Bop} (hi : o.inI) (hl : o.data.length ≤ 9223372036854775807) : inJ o.rng.1 ∧ inJ o.rng.2 := by
  unfold Bop.rng
  split
  · exact ⟨hi.2.1, by simp only; unfold inJ; omega⟩
  · split
    · exact ⟨hi.2.1, hi.2.2⟩
    · exact ⟨by unfold inJ; simp, by unfold inJ; simp⟩
theorem Right_ok {o : Bop} {n : Int} (hi : o.inI) (hn : inJ n) (hv : Words S h o.data v) : Does Try.prog 59 #[.int .i64 n, .agg (o.cs v).toArray] h (fun u h' => u = .bool (decide (o.fits n)) ∧ h.quiet h') := by
  obtain ⟨a, c, rfl⟩ := hv.shape
  have hl := hv.len
  obtain ⟨j1, j2⟩ := rng_inJ hi hl.2.1
  have hno : ¬ o.fits n → Value.bool false = Value.bool (decide (o.fits n)) := fun e => by rw [decide_eq_false e]
  have hyes : o.fits n → Value.bool true = Value.bool (decide (o.fits n)) := fun e => by rw [decide_eq_true e]
  refine spec_go mixed Try.func59 rfl Try.results59 (n := Try.f59.ntmps) (by kernel_rfl) (by simp) ?_
  simp only [go_sem, simprocAttr, bo_len, bo_one, bo_take, bo_put]
  have q0 : h.quiet (h.push (.cells (o.cs (.slice a o.data.length c)) .rw)) := .push _ _
  have g0 : (h.push (.cells (o.cs (.slice a o.data.length c)) .rw)).get h.next = .cells (o.cs (.slice a o.data.length c)) .rw := by simp
  generalize h.push (.cells (o.cs (.slice a o.data.length c)) .rw) = k at q0 g0
  refine cl_spec (Range_ok (hv.quiet q0)) (fun u h' hp _ => hp.2) ?_
  rintro u k1 ⟨rfl, q1⟩
  have g1 := (q1.2 _ (AHeap.lt_of_alive k (by rw [g0]; simp))).trans g0
  have q01 := q0.trans q1
  have hr : ∀ q, (q ↔ o.fits n) → ∀ [Decidable q], Value.bool (decide q) = Value.bool (decide (o.fits n)) := fun q e _ => congrArg Value.bool (decide_eq_decide.2 e)
  obtain ⟨x, hx⟩ : ∃ x, o.rng.1 = x := ⟨_, rfl⟩
  obtain ⟨y, hy⟩ : ∃ y, o.rng.2 = y := ⟨_, rfl⟩
  have hf : o.fits n ↔ (0 ≤ n ∧ n ≤ 1024 ∧ 1 ≤ y ∧ 0 ≤ x ∧ y ≤ n ∧ x ≤ n - y) ∧ ((o.kd = 2 ∧ o.data.length = 0) ∨ (o.kd = 1 ∧ o.ln = 0 ∧ y ≤ 64)) := by unfold Bop.fits; rw [hx, hy]
  rw [hx, hy]
  rw [hx] at j1
  rw [hy] at j2
  simp only [go_sem, simprocAttr]
  by_cases c1 : n < 0
  · simp only [go_sem, simprocAttr, c1, decide_true]
    exact ⟨hno (by rw [hf]; omega), q01⟩
  · by_cases c2 : 1024 < n
    · simp only [go_sem, simprocAttr, c1, c2, decide_true, decide_false]
      exact ⟨hno (by rw [hf]; omega), q01⟩
    · by_cases c3 : y < 1
      · simp only [go_sem, simprocAttr, c1, c2, c3, decide_true, decide_false]
        exact ⟨hno (by rw [hf]; omega), q01⟩
      · simp only [go_sem, simprocAttr, c1, c2, c3, decide_true, decide_false]
        refine cl_spec (lies_ok hn j1 j2) (fun _ _ _ hc => absurd hc (by decide +kernel)) ?_
        rintro u k2 ⟨rfl, rfl⟩
        by_cases c4 : 0 ≤ x ∧ 0 ≤ y ∧ y ≤ n ∧ x ≤ n - y
        · simp only [go_sem, simprocAttr, decide_eq_true c4, g1, bo_0]
          by_cases k1 : o.kd = 2
          · by_cases c5 : o.data.length = 0
            · have c5' : (o.data.length : Int) = 0 := by omega
              simp only [go_sem, simprocAttr, k1, c5', eq_self, decide_true, g1, bo_3]
              exact ⟨hyes (by rw [hf]; omega), q01⟩
            · have c5' : ¬ (o.data.length : Int) = 0 := by omega
              have k1' : ¬ o.kd = 1 := by omega
              simp only [go_sem, simprocAttr, k1, c5', eq_self, decide_true, decide_false, g1, bo_3, bo_0]
              exact ⟨hno (by rw [hf]; omega), q01⟩
          · by_cases k2 : o.kd = 1
            · by_cases c6 : o.ln = 0
              · simp only [go_sem, simprocAttr, k1, k2, c6, eq_self, decide_true, decide_false, g1, bo_3, bo_0, bo_2]
                exact ⟨hr _ (by rw [hf]; omega), q01⟩
              · simp only [go_sem, simprocAttr, k1, k2, c6, eq_self, decide_true, decide_false, g1, bo_3, bo_0, bo_2]
                exact ⟨hno (by rw [hf]; omega), q01⟩
            · simp only [go_sem, simprocAttr, k1, k2, eq_self, decide_true, decide_false, g1, bo_3, bo_0, bo_2]
              exact ⟨hno (by rw [hf]; omega), q01⟩
        · simp only [go_sem, simprocAttr, decide_eq_false c4]
          exact ⟨hno (by rw [hf]; omega), q01⟩
def wkN (n : Int) : Int → List Rec → Bool
  | _, [] => true
  | last, r :: rs => decide (r.op.fits n ∧ last ≤ r.op.rng.1) && wkN n (r.op.rng.1 + r.op.rng.2) rs
def hdR (l : List Rec) : Rec := l[0]?.getD Rec.zero
def tlR (l : List Rec) : Rec := l[l.length - 1]?.getD Rec.zero
def midR (l : List Rec) : List Rec := (l.drop 1).take (l.length - 1 - 1)
def checkN (l : List Rec) : Int :=
  if ∃ r ∈ l, ¬ r.may then 1
  else if l.length < 2 ∨ (hdR l).kd ≠ 1 ∨ (tlR l).kd ≠ 4 ∨ ∃ r ∈ midR l, ¬ (r.kd = 2 ∨ r.kd = 3) then 14
  else if 1024 < (hdR l).ln then 6
  else if wkN (hdR l).ln 0 (midR l) = false then 5
  else if (tlR l).ln ≠ l.length - 2 then 3 else 0
theorem wi_rng (n : Int) : inJ (IntKind.i64.wrap n) := by
  unfold inJ
  simp only [IntKind.wrap, IntKind.bits, IntKind.signed, if_true, Bool.true_and]
  split <;> simp_all <;> omega
theorem op_inI {r : Rec} (hi : r.inI) : r.op.inI := ⟨wi_rng _, hi.2.2.2.2.2.1, hi.2.2.2.2.2.2⟩
theorem Check_ok {l : List Rec} (hs : IsSl rRec S h l v) (hb : ∀ r ∈ l, r.data.length ≤ 1099511627776) : Does Try.prog 33 #[v] h (fun u h' => h.quiet h' ∧ u = .int .i64 (checkN l)) := by
  obtain ⟨a, c, rfl⟩ := hs.shape
  have hll := hs.len
  refine spec_go mixed Try.func33 rfl Try.results33 (n := Try.f33.ntmps) (by kernel_rfl) (by simp) ?_
  simp only [go_sem, simprocAttr]
  refine cl_spec (cf_rec hs (p := fun r => ¬ r.may) (fun hv => notMay2_ok hv)) (fun _ _ _ hc => absurd hc (by decide +kernel)) ?_
  rintro u k0 ⟨q0, rfl⟩
  unfold checkN
  by_cases c1 : ∃ r ∈ l, ¬ r.may
  · simp only [go_sem, simprocAttr, decide_eq_true c1, if_pos c1]
    exact q0
  · simp only [go_sem, simprocAttr, decide_eq_false c1, if_neg c1]
    have hs0 := hs.quiet q0
    by_cases c2 : l.length < 2
    · have c2' : (l.length : Int) < 2 := by omega
      simp only [go_sem, simprocAttr, c2', decide_true, if_pos (show l.length < 2 ∨ (hdR l).kd ≠ 1 ∨ (tlR l).kd ≠ 4 ∨ ∃ r ∈ midR l, ¬ (r.kd = 2 ∨ r.kd = 3) from .inl c2)]
      exact q0
    · have c2' : ¬ (l.length : Int) < 2 := by omega
      obtain ⟨b, off, sp, cc, md, x, lv, rfl, _, hg, hxi, hlv, hxb, hle, hdt⟩ := IsSl.atR hs0 (i := 0) (by omega)
      obtain ⟨b', off', sp', cc', md', y, lw, hA', _, hg', hyi, hlw, hyb, hle', hdt'⟩ := IsSl.atR hs0 (i := l.length - 1) (by omega)
      cases hA'
      obtain rfl : cc = cc' := by rw [hg] at hg'; cases hg'; rfl
      have hh : hdR l = x := by unfold hdR; rw [hxi]; rfl
      have ht : tlR l = y := by unfold tlR; rw [hyi]; rfl
      rw [hh, ht]
      have x0 : cc[off]? = some (.int .i64 x.kd) := by have := seg_get hdt (k := 0) (by omega); simp only [Nat.zero_mul, Nat.add_zero] at this; rwa [rc_0] at this
      have x6 : cc[off + 6]? = some (.int .i64 x.ln) := by have := seg_get hdt (k := 6) (by omega); simp only [Nat.zero_mul, Nat.add_zero] at this; rwa [rc_6] at this
      have y0 : cc[off + (l.length - 1) * 8]? = some (.int .i64 y.kd) := by have := seg_get hdt' (k := 0) (by omega); simp only [Nat.add_zero] at this; rwa [rc_0] at this
      have y6 : cc[off + (l.length - 1) * 8 + 6]? = some (.int .i64 y.ln) := by have := seg_get hdt' (k := 6) (by omega); rwa [rc_6] at this
      have e1 : IntKind.i64.wrap ((l.length : Int) - 1) = ((l.length - 1 : Nat) : Int) := by rw [wi64] <;> omega
      have l0 : (0 : Int) < l.length := by omega
      have l1 : 0 < l.length := by omega
      have l2 : l.length - 1 < l.length := by omega
      obtain ⟨a1, c1', e5, s1⟩ := hs0.slice 8 rfl (l := 1) (m := l.length - 1) (by omega) (by omega)
      have e5 : slI 8 (some ⟨b, off, sp⟩) l.length c (some 1) (some ((l.length - 1 : Nat) : Int)) = some (.slice a1 (l.length - 1 - 1) c1') := e5
      have s1 : IsSl rRec S k0 (midR l) (.slice a1 (l.length - 1 - 1) c1') := s1
      have hml : (midR l).length = l.length - 1 - 1 := s1.len.1.symm
      have hmb : ∀ r ∈ midR l, r.data.length ≤ 1099511627776 := fun r hr => hb r (List.mem_of_mem_drop (List.mem_of_mem_take hr))
      have hlb : b < k0.next := AHeap.lt_of_alive k0 (by rw [hg]; simp)
      simp only [go_sem, simprocAttr, c2', decide_false, hg, x0, l0, l1]
      by_cases k1 : x.kd = 1
      · simp only [go_sem, simprocAttr, k1, eq_self, decide_true, e1, l2, hg, y0]
        by_cases k4 : y.kd = 4
        · simp only [go_sem, simprocAttr, k4, eq_self, decide_true, e1, e5]
          refine cl_spec (cf_rec s1 (p := fun r => ¬ (r.kd = 2 ∨ r.kd = 3)) (fun hv => notBetw_ok hv)) (fun _ _ _ hc => absurd hc (by decide +kernel)) ?_
          rintro u k2 ⟨q2, rfl⟩
          have hg2 := (q2.2 _ hlb).trans hg
          have s2 := s1.quiet q2
          have qq := q0.trans q2
          by_cases c5 : ∃ r ∈ midR l, ¬ (r.kd = 2 ∨ r.kd = 3)
          · simp only [go_sem, simprocAttr, decide_eq_true c5]
            exact ⟨qq, by rw [if_pos (.inr c5)]⟩
          · have hneg : ¬ (l.length < 2 ∨ ∃ r ∈ midR l, ¬ (r.kd = 2 ∨ r.kd = 3)) := fun e => e.elim c2 c5
            simp only [go_sem, simprocAttr, decide_eq_false c5, if_neg hneg, hg2, l0, l1, x6]
            by_cases c6 : 1024 < x.ln
            · simp only [go_sem, simprocAttr, c6, decide_true, if_pos c6]
              exact qq
            · simp only [go_sem, simprocAttr, c6, decide_false, if_neg c6, e1, e5]
              generalize hmm : midR l = ms at *
              rw [← hml] at s2 e5
              have hxl : inJ x.ln := hxb.2.2.2.2.2.2
              clear s1 hneg
              refine go_loop (fun z ρ k => ∃ (i : Nat) (last : Int), i ≤ ms.length ∧ z = ms.length - i ∧ inJ last ∧ k2.quiet k ∧ wkN x.ln 0 ms = wkN x.ln last (ms.drop i) ∧ ρ 0 = .slice (some ⟨b, off, sp⟩) l.length c ∧ ρ 3 = .int .i64 l.length ∧ ρ 4 = .int .i64 last ∧ ρ 46 = .slice a1 ms.length c1' ∧ ρ 47 = .int .i64 ms.length ∧ ρ 48 = .int .i64 i) ms.length ⟨0, 0, by omega, by omega, by unfold inJ; simp, .refl _, rfl, by simp only [go_sem, simprocAttr, hml]⟩ ?_
              rintro z ρ k ⟨i, last, hi, rfl, hlast, q, hwk, r0, r3, r4, r46, r47, r48⟩
              have hgk := (q.2 _ (AHeap.lt_of_alive k2 (by rw [hg2]; simp))).trans hg2
              simp only [go_sem, simprocAttr, r0, r3, r4, r46, r47, r48]
              refine cnd_decide (fun hy => ?_) (fun hy => ?_)
              · have h1 : i < ms.length := by omega
                obtain ⟨b3, off3, sp3, cc3, md3, m, mv, hA3, _, hg3, hmi, hmv, hmb3, hle3, hdt3⟩ := IsSl.atR (s2.quiet q) h1
                obtain ⟨am, cm, rfl⟩ := hmv.shape
                have hmx := hmb m (List.mem_of_getElem? hmi)
                have e9 : IntKind.i64.wrap ((i : Int) + 1) = ((i + 1 : Nat) : Int) := by rw [wi64] <;> omega
                simp only [go_sem, simprocAttr, r0, r3, r4, r46, r47, r48, h1, hA3, hg3, hle3, hdt3, rc_len, rc_one, rc_take, rc_put]
                have qb : k.quiet (k.push (.cells (m.cs (.slice am m.data.length cm)) .rw)) := .push _ _
                have gb : (k.push (.cells (m.cs (.slice am m.data.length cm)) .rw)).get k.next = .cells (m.cs (.slice am m.data.length cm)) .rw := by simp
                generalize k.push (.cells (m.cs (.slice am m.data.length cm)) .rw) = kb at qb gb
                refine cl_spec (sop_ok (hmv.quiet qb) hmx) (fun u h' hp _ => hp.1) ?_
                rintro u k4 ⟨q4, ow, rfl, how⟩
                obtain ⟨ao, co, rfl⟩ := how.shape
                simp only [go_sem, simprocAttr]
                refine cl_spec (Range_ok (o := m.op) how) (fun u h' hp _ => hp.2) ?_
                rintro u k5 ⟨rfl, q5⟩
                have q45 := q4.trans q5
                have gb5 := (q45.2 _ (AHeap.lt_of_alive kb (by rw [gb]; simp))).trans gb
                have hgk5 := ((qb.trans q45).2 _ (AHeap.lt_of_alive k (by rw [hgk]; simp))).trans hgk
                simp only [go_sem, simprocAttr, r0, r3, r4, r46, r47, r48, hgk5, l0, l1, x6, gb5, rc_len, rc_one, rc_take, rc_put]
                refine cl_spec (sop_ok (hmv.quiet (qb.trans q45)) hmx) (fun u h' hp _ => hp.1) ?_
                rintro u k6 ⟨q6, ow, rfl, how⟩
                obtain ⟨ao, co, rfl⟩ := how.shape
                simp only [go_sem, simprocAttr]
                refine cl_spec (Right_ok (o := m.op) (op_inI hmb3) hxl how) (fun u h' hp _ => hp.2) ?_
                rintro u k7 ⟨rfl, q7⟩
                have qall := ((q.trans qb).trans q45).trans (q6.trans q7)
                have hdr : ms.drop i = m :: ms.drop (i + 1) := drop_cons hmi
                rw [hdr] at hwk
                obtain ⟨j1, j2⟩ := rng_inJ (op_inI hmb3) (o := m.op) (by show m.data.length ≤ _; omega)
                by_cases f1 : m.op.fits x.ln
                · by_cases f2 : m.op.rng.1 < last
                  · simp only [go_sem, simprocAttr, r0, r3, r4, r46, r47, r48, f1, f2, decide_true, decide_false]
                    have : wkN x.ln 0 ms = false := by rw [hwk]; unfold wkN; rw [decide_eq_false (fun e => by omega)]; rfl
                    rw [this]
                    exact ⟨qq.trans qall, by simp⟩
                  · have ew : IntKind.i64.wrap (m.op.rng.1 + m.op.rng.2) = m.op.rng.1 + m.op.rng.2 := by have := f1.1; rw [wi64] <;> omega
                    simp only [go_sem, simprocAttr, r0, r3, r4, r46, r47, r48, f1, f2, decide_true, decide_false, ew, e9]
                    refine Hold.mk ⟨ms.length - (i + 1), by omega, i + 1, m.op.rng.1 + m.op.rng.2, by omega, rfl, by have := f1.1; unfold inJ; omega, qall, ?_, by simp only [go_sem, simprocAttr, r0, r3, r46, r47, hA3]⟩
                    rw [hwk]
                    show (decide _ && _) = _
                    rw [decide_eq_true ⟨f1, by omega⟩, Bool.true_and]
                · simp only [go_sem, simprocAttr, r0, r3, r4, r46, r47, r48, f1, decide_true, decide_false]
                  have : wkN x.ln 0 ms = false := by rw [hwk]; unfold wkN; rw [decide_eq_false (fun e => f1 e.1)]; rfl
                  rw [this]
                  exact ⟨qq.trans qall, by simp⟩
              · have : i = ms.length := by omega
                subst this
                rw [List.drop_of_length_le (Nat.le_refl _)] at hwk
                have : wkN x.ln 0 ms = true := hwk
                rw [this]
                have e2 : IntKind.i64.wrap ((l.length : Int) - 2) = (l.length : Int) - 2 := by rw [wi64] <;> omega
                simp only [go_sem, simprocAttr, r0, r3, r4, e1, e2, hgk, l2, y6]
                by_cases c7 : y.ln = (l.length : Int) - 2
                · simp only [go_sem, simprocAttr, c7, eq_self, decide_true]
                  exact qq.trans q
                · simp only [go_sem, simprocAttr, c7, decide_false]
                  exact qq.trans q
        · simp only [go_sem, simprocAttr, k4, decide_false]
          exact q0
      · simp only [go_sem, simprocAttr, k1, decide_false]
        exact q0
end
end Go.Proofs.Ytolnacokdjognaa
