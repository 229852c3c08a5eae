/- stream: which records may be. -/
import Derived.Test.YtolnacokdjognaaStA
set_option linter.unusedSimpArgs false
set_option linter.unusedVariables false
set_option linter.unnecessarySimpa false
set_option maxRecDepth 100000
namespace Go.Proofs.Ytolnacokdjognaa
open Go.AM

def rRec : Rep Rec := (Rep.pair rI (.pair rI (.pair rI (.pair rI (.pair rI (.pair rI (.pair rI rW.list))))))).via fun m => (m.kd, m.sh, m.sn, m.ba, m.mp, m.of_, m.ln, m.data)
def inJ (x : Int) : Prop := -9223372036854775808 ≤ x ∧ x ≤ 9223372036854775807
def Rec.inI (m : Rec) : Prop := inJ m.kd ∧ inJ m.sh ∧ inJ m.sn ∧ inJ m.ba ∧ inJ m.mp ∧ inJ m.of_ ∧ inJ m.ln
theorem rRec_iff {S : Nat → Prop} {h : AHeap} {m : Rec} {cs : List Value} : rRec.R S h m cs ↔ ∃ v, cs = m.cs v ∧ m.inI ∧ Words S h m.data v := by
  constructor
  · rintro ⟨c1, c2, rfl, ⟨rfl, h1⟩, c3, c4, rfl, ⟨rfl, h2⟩, c5, c6, rfl, ⟨rfl, h3⟩, c7, c8, rfl, ⟨rfl, h4⟩, c9, c10, rfl, ⟨rfl, h5⟩, c11, c12, rfl, ⟨rfl, h6⟩, c13, c14, rfl, ⟨rfl, h7⟩, v, rfl, hv⟩
    exact ⟨v, rfl, ⟨h1, h2, h3, h4, h5, h6, h7⟩, hv⟩
  · rintro ⟨v, rfl, ⟨h1, h2, h3, h4, h5, h6, h7⟩, hv⟩
    exact ⟨_, _, rfl, ⟨rfl, h1⟩, _, _, rfl, ⟨rfl, h2⟩, _, _, rfl, ⟨rfl, h3⟩, _, _, rfl, ⟨rfl, h4⟩, _, _, rfl, ⟨rfl, h5⟩, _, _, rfl, ⟨rfl, h6⟩, _, _, rfl, ⟨rfl, h7⟩, v, rfl, hv⟩
theorem rc_len (m : Rec) (v : Value) : (m.cs v).length = 8 := rfl
theorem rc_one (m : Rec) (a : Option Addr) (n c : Nat) : (m.cs (.slice a n c)).all one = true := rfl
theorem rc_take (m : Rec) (v : Value) : (m.cs v).take 8 = m.cs v := rfl
theorem rc_zero : Rec.zero.cs (.slice none 0 0) = [.int .i64 0, .int .i64 0, .int .i64 0, .int .i64 0, .int .i64 0, .int .i64 0, .int .i64 0, .slice none 0 0] := rfl
theorem rc_put (m : Rec) (v : Value) : putCells [.int .i64 0, .int .i64 0, .int .i64 0, .int .i64 0, .int .i64 0, .int .i64 0, .int .i64 0, .slice none 0 0] 0 (m.cs v) = m.cs v := rfl
theorem rc_7 (m : Rec) (v : Value) : (m.cs v)[7]? = some v := rfl
theorem rc_0 (m : Rec) (v : Value) : (m.cs v)[0]? = some (.int .i64 m.kd) := rfl
theorem rc_1 (m : Rec) (v : Value) : (m.cs v)[1]? = some (.int .i64 m.sh) := rfl
theorem rc_2 (m : Rec) (v : Value) : (m.cs v)[2]? = some (.int .i64 m.sn) := rfl
theorem rc_3 (m : Rec) (v : Value) : (m.cs v)[3]? = some (.int .i64 m.ba) := rfl
theorem rc_4 (m : Rec) (v : Value) : (m.cs v)[4]? = some (.int .i64 m.mp) := rfl
theorem rc_5 (m : Rec) (v : Value) : (m.cs v)[5]? = some (.int .i64 m.of_) := rfl
theorem rc_6 (m : Rec) (v : Value) : (m.cs v)[6]? = some (.int .i64 m.ln) := rfl
theorem rc_get {m : Rec} {v : Value} {i : Nat} (hi : i < 7) : ∃ x, m.ns[i]? = some x ∧ (m.cs v)[i]? = some (.int .i64 x) := by
  match i, hi with
  | 0, _ => exact ⟨_, rfl, rfl⟩
  | 1, _ => exact ⟨_, rfl, rfl⟩
  | 2, _ => exact ⟨_, rfl, rfl⟩
  | 3, _ => exact ⟨_, rfl, rfl⟩
  | 4, _ => exact ⟨_, rfl, rfl⟩
  | 5, _ => exact ⟨_, rfl, rfl⟩
  | 6, _ => exact ⟨_, rfl, rfl⟩
theorem IsSl.atR {S : Nat → Prop} {h : AHeap} {xs : List Rec} {a : Option Addr} {n cap : Nat} (hs : IsSl rRec S h xs (.slice a n cap)) {i : Nat} (hi : i < n) :
    ∃ b off sp c md x lv, a = some ⟨b, off, sp⟩ ∧ S b ∧ h.get b = .cells c md ∧ xs[i]? = some x ∧ Words S h x.data lv ∧ x.inI ∧ off + i * 8 + 8 ≤ c.length ∧ (c.drop (off + i * 8)).take 8 = x.cs lv := by
  obtain ⟨b, off, sp, c, md, cs, x, h1, h2, h3, h4, h5, h6, h7⟩ := hs.at 8 rfl hi
  obtain ⟨lv, rfl, h8, h9⟩ := rRec_iff.1 h5
  exact ⟨b, off, sp, c, md, x, lv, h1, h2, h3, h4, h9, h8, h6, h7⟩
/-- The places of a record's numbers. -/
def rptrs (id : Nat) : List Value := (List.range 7).map fun i => .pointer (some ⟨id, i, none⟩)
theorem rptrs_get {id i : Nat} (hi : i < 7) : (rptrs id)[i]? = some (.pointer (some ⟨id, i, none⟩)) := by
  simp [rptrs, List.getElem?_range hi]
section
variable {h : AHeap} {S S' Z : Nat → Prop} {v w : Value}
theorem snumbers_ok {id : Nat} : Does Try.prog 36 #[.pointer (some ⟨id, 0, none⟩)] h (fun u h' => u = .slice (some ⟨h.next, 0, none⟩) 7 7 ∧ h' = h.push (.cells (rptrs id) .rw)) := by
  refine spec_go mixed Try.func36 rfl Try.results36 (n := Try.f36.ntmps) (by kernel_rfl) (by simp) ?_
  simp only [go_sem, simprocAttr]
  rfl
theorem zeros1_ok {x : Int} : Does Try.prog 72 #[.int .i64 x] h (fun u h' => u = .bool (decide (x ≠ 0)) ∧ h' = h) := by
  refine spec_go mixed Try.func72 rfl Try.results72 (n := Try.f72.ntmps) (by kernel_rfl) (by simp) ?_
  simp only [go_sem, simprocAttr]
  simp
theorem cf_int {xs : List Int} {a : Option Addr} {n c : Nat} (hs : IsSl rI S h xs (.slice a n c)) {F : FuncId} {p : Int → Prop} [DecidablePred p] (hF : ∀ x, Does Try.prog F #[.int .i64 x] h (fun u h' => u = .bool (decide (p x)) ∧ h' = h)) :
    Does Try.prog 77 #[.slice a n c, .func (.func F) #[] #[]] h (fun u h' => h' = h ∧ ∃ z, u = .int .i64 z ∧ (0 ≤ z ↔ ∃ x ∈ xs, p x)) := by
  have hll := hs.len
  obtain rfl := hll.1
  refine spec_go mixed Try.func77 rfl Try.results77 (n := Try.f77.ntmps) (by kernel_rfl) (by simp) ?_
  simp only [go_sem, simprocAttr]
  refine go_loop (fun z ρ k => ∃ i : Nat, i ≤ xs.length ∧ z = xs.length - i ∧ k = h ∧ (∀ x ∈ xs.take i, ¬ p x) ∧ ρ 0 = .slice a xs.length c ∧ ρ 1 = .func (.func F) #[] #[] ∧ ρ 7 = .int .i64 xs.length ∧ ρ 8 = .int .i64 i) xs.length ⟨0, by omega, by omega, rfl, by simp, by simp only [go_sem, simprocAttr]⟩ ?_
  rintro z ρ k ⟨i, hi, rfl, rfl, hall, r0, r1, r7, r8⟩
  simp only [go_sem, simprocAttr, r0, r1, r7, r8]
  refine cnd_decide (fun hy => ?_) (fun hy => ?_)
  · have h1 : i < xs.length := by omega
    obtain ⟨b, off, sp, cc, md, x, hA, _, hg, hxi, _, hc⟩ := hs.atI h1
    have e9 : IntKind.i64.wrap ((i : Int) + 1) = ((i + 1 : Nat) : Int) := by rw [wi64] <;> omega
    simp only [go_sem, simprocAttr, r0, r1, r7, r8, hA, hg, hc, h1, hy]
    refine cl_spec (hF x) (fun _ _ _ hc => absurd hc (by decide +kernel)) ?_
    rintro u k' ⟨rfl, rfl⟩
    by_cases hp : p x
    · simp only [go_sem, simprocAttr, hp, decide_true]
      exact ⟨i, rfl, by simp; exact ⟨x, List.mem_of_getElem? hxi, hp⟩⟩
    · simp only [go_sem, simprocAttr, r0, r1, r7, r8, hp, decide_false, e9]
      refine Hold.mk ⟨xs.length - (i + 1), by omega, i + 1, by omega, rfl, rfl, fun y hm => ?_, by simp only [go_sem, simprocAttr, r0, r1, r7, hA]⟩
      rw [List.take_add_one, hxi] at hm
      rcases List.mem_append.1 hm with hm | hm
      · exact hall y hm
      · obtain rfl : y = x := by simpa using hm
        exact hp
  · have : i = xs.length := by omega
    subst this
    rw [List.take_length] at hall
    simp only [go_sem, simprocAttr]
    exact ⟨-1, rfl, by simp; exact hall⟩
theorem ge0 {z : Int} {q : Prop} [Decidable q] (e : 0 ≤ z ↔ q) : Value.bool (decide (0 ≤ z)) = .bool (decide q) := by
  by_cases hq : q
  · rw [decide_eq_true hq, decide_eq_true (e.2 hq)]
  · rw [decide_eq_false hq, decide_eq_false (fun x => hq (e.1 x))]
theorem zeros_ok {xs : List Int} {a : Option Addr} {n c : Nat} (hs : IsSl rI S h xs (.slice a n c)) : Does Try.prog 53 #[.slice a n c] h (fun u h' => u = .bool (decide (∀ x ∈ xs, x = 0)) ∧ h' = h) := by
  have hcf : Does Try.prog 71 #[.slice a n c, .func (.func 72) #[] #[]] h (fun u h' => u = .bool (decide (∃ x ∈ xs, x ≠ 0)) ∧ h' = h) := by
    refine spec_go mixed Try.func71 rfl Try.results71 (n := Try.f71.ntmps) (by kernel_rfl) (by simp) ?_
    simp only [go_sem, simprocAttr]
    refine cl_spec (cf_int hs (p := (· ≠ 0)) (fun x => zeros1_ok)) (fun _ _ _ hc => absurd hc (by decide +kernel)) ?_
    rintro u k ⟨rfl, z, rfl, e⟩
    simp only [go_sem, simprocAttr]
    exact ge0 e
  refine spec_go mixed Try.func53 rfl Try.results53 (n := Try.f53.ntmps) (by kernel_rfl) (by simp) ?_
  simp only [go_sem, simprocAttr]
  refine cl_spec hcf (fun _ _ _ hc => absurd hc (by decide +kernel)) ?_
  rintro u k ⟨rfl, rfl⟩
  simp only [go_sem, simprocAttr]
  by_cases hz : ∀ x ∈ xs, x = 0
  · rw [decide_eq_true hz, decide_eq_false (by rintro ⟨x, hx, e⟩; exact e (hz x hx))]; rfl
  · rw [decide_eq_false hz, decide_eq_true (by simpa using hz)]; rfl
theorem May_ok {m : Rec} (hv : Words S h m.data v) : Does Try.prog 31 #[.agg (m.cs v).toArray] h (fun u h' => u = .bool (decide m.may) ∧ h.quiet h') := by
  obtain ⟨a, c, rfl⟩ := hv.shape
  have hl := hv.len
  have hri := m.ok_iff
  have hget := fun i (hi : i < 7) => rc_get (m := m) (v := .slice a m.data.length c) hi
  have g0 := rc_0 m (.slice a m.data.length c)
  have g1 := rc_1 m (.slice a m.data.length c)
  have g2 := rc_2 m (.slice a m.data.length c)
  have g3 := rc_3 m (.slice a m.data.length c)
  have g4 := rc_4 m (.slice a m.data.length c)
  have g5 := rc_5 m (.slice a m.data.length c)
  have g6 := rc_6 m (.slice a m.data.length c)
  have g7 := rc_7 m (.slice a m.data.length c)
  have hlen := rc_len m (.slice a m.data.length c)
  have hone := rc_one m a m.data.length c
  generalize m.cs (.slice a m.data.length c) = cs at hget g0 g1 g2 g3 g4 g5 g6 g7 hlen hone
  have hno : ¬ m.may → Value.bool false = Value.bool (decide m.may) := fun e => by rw [decide_eq_false e]
  refine spec_go mixed Try.func31 rfl Try.results31 (n := Try.f31.ntmps) (by kernel_rfl) (by simp) ?_
  simp only [go_sem, simprocAttr, hlen, hone]
  refine cl_spec snumbers_ok (fun u h' hp _ => by rw [hp.2]; exact .push _ _) ?_
  rintro u k ⟨rfl, rfl⟩
  have hg1 : ((h.push (.cells cs .rw)).push (.cells (rptrs h.next) .rw)).get h.next = .cells cs .rw := by simp only [go_sem, simprocAttr]
  have hg2 : ((h.push (.cells cs .rw)).push (.cells (rptrs h.next) .rw)).get (h.next + 1) = .cells (rptrs h.next) .rw := by simp only [go_sem, simprocAttr]
  have hq : h.quiet ((h.push (.cells cs .rw)).push (.cells (rptrs h.next) .rw)) := by simp only [go_sem, simprocAttr]
  simp only [go_sem, simprocAttr]
  generalize (h.push (.cells cs .rw)).push (.cells (rptrs h.next) .rw) = k at hg1 hg2 hq
  have hk := AHeap.lt_of_alive k (i := h.next) (by rw [hg1]; simp)
  refine go_loop (fun z ρ k' => ∃ i : Nat, i ≤ 7 ∧ z = 7 - i ∧ k' = k ∧ (∀ (j : Nat) (x : Int), j < i → m.ns[j]? = some x → okF x) ∧ ρ 1 = .pointer (some ⟨h.next, 0, none⟩) ∧ ρ 5 = .slice (some ⟨h.next + 1, 0, none⟩) 7 7 ∧ ρ 6 = .int .i64 7 ∧ ρ 7 = .int .i64 i) 7 ⟨0, by omega, by omega, rfl, fun j x hj => by omega, by simp only [go_sem, simprocAttr]⟩ ?_
  rintro z ρ k' ⟨i, hi, rfl, rfl, hall, r1, r5, r6, r7⟩
  simp only [go_sem, simprocAttr, r1, r5, r6, r7]
  refine cnd_decide (fun hy => ?_) (fun hy => ?_)
  · have h1 : i < 7 := by omega
    obtain ⟨x, hx, hcx⟩ := hget i h1
    have hp := rptrs_get (id := h.next) h1
    have e9 : IntKind.i64.wrap ((i : Int) + 1) = ((i + 1 : Nat) : Int) := by rw [wi64] <;> omega
    have hbad : ¬ okF x → ¬ m.may := fun e hr => e (hri.1 hr.1 i x hx)
    by_cases hx0 : x < 0
    · simp only [go_sem, simprocAttr, r1, r5, r6, r7, hg2, hp, hy, decide_true, hg1, hcx, hx0, decide_false]
      exact ⟨hno (hbad fun e => by have := e.1; omega), hq⟩
    · by_cases hx1 : 2147483648 < x
      · simp only [go_sem, simprocAttr, r1, r5, r6, r7, hg2, hp, hy, decide_true, hg1, hcx, hx0, hx1, decide_false]
        exact ⟨hno (hbad fun e => by have := e.2; omega), hq⟩
      · simp only [go_sem, simprocAttr, r1, r5, r6, r7, hg2, hp, hy, decide_true, hg1, hcx, hx0, hx1, decide_false, e9]
        refine Hold.mk ⟨7 - (i + 1), by omega, i + 1, by omega, rfl, rfl, fun j y hj hw => ?_, by simp only [go_sem, simprocAttr, r1, r5, r6]⟩
        rcases Nat.lt_succ_iff_lt_or_eq.1 hj with e' | rfl
        · exact hall j y e' hw
        · rw [hx] at hw; cases hw; exact ⟨by omega, by omega⟩
  · have : i = 7 := by omega
    subst this
    have hok : okF m.kd ∧ okF m.sh ∧ okF m.sn ∧ okF m.ba ∧ okF m.mp ∧ okF m.of_ ∧ okF m.ln := hri.2 fun j x hx => hall j x (by obtain ⟨hl, -⟩ := List.getElem?_eq_some_iff.1 hx; exact hl) hx
    have hform : decide m.may = decide m.form := decide_eq_decide.2 ⟨fun e => e.2, fun e => ⟨hok, e⟩⟩
    rw [hform]
    have hno : ¬ m.form → Value.bool false = Value.bool (decide m.form) := fun e => by rw [decide_eq_false e]
    have hyes : m.form → Value.bool true = Value.bool (decide m.form) := fun e => by rw [decide_eq_true e]
    have zs : ∀ {l : List Int} (hl : l.length ≤ 9) (hl2 : ∀ x ∈ l, IntKind.i64.min ≤ x ∧ x ≤ IntKind.i64.max), IsSl rI (fun _ => True) (k'.push (.cells (l.map fun n => .int .i64 n) .rw)) l (.slice (some ⟨k'.next, 0, none⟩) l.length l.length) := fun {l} hl hl2 =>
      .fresh (css := l.map fun n => [.int .i64 n]) (.of_map _ fun x h => ⟨rfl, hl2 x h⟩) rfl (by omega) trivial (AHeap.get_push_self _ _) (by clear hl hl2; induction l with | nil => rfl | cons x l ih => rw [List.map_cons, List.map_cons, List.flatten_cons, ← ih]; rfl)
    have i64 : ∀ x, okF x → IntKind.i64.min ≤ x ∧ x ≤ IntKind.i64.max := fun x e => by have := e.1; have := e.2; rw [i64_min, i64_max]; omega
    have hg1p : ∀ o, (k'.push o).get h.next = .cells cs .rw := fun o => by rw [AHeap.get_push_lt _ _ hk]; exact hg1
    simp only [go_sem, simprocAttr, r1, hg1, g0]
    by_cases k1 : m.kd = 1
    · by_cases c1 : m.of_ = 0
      · have e : ((m.data.length : Int) = 0) ↔ m.form := by unfold Rec.form; omega
        simp only [go_sem, simprocAttr, r1, hg1, g0, g5, g7, k1, c1, eq_self, decide_true]
        exact ⟨congrArg Value.bool (decide_eq_decide.2 e), hq⟩
      · simp only [go_sem, simprocAttr, r1, hg1, g0, g5, g7, k1, c1, eq_self, decide_true, decide_false]
        exact ⟨hno (by unfold Rec.form; omega), hq⟩
    · by_cases k2 : m.kd = 2
      · simp only [go_sem, simprocAttr, r1, hg1, g0, g1, g2, g3, g4, g6, k1, k2, eq_self, decide_true, decide_false]
        have hz := zs (l := [m.sh, m.sn, m.ba, m.mp, m.ln]) (by simp) (by simp only [List.mem_cons, List.not_mem_nil, or_false]; rintro x (rfl | rfl | rfl | rfl | rfl) <;> first | exact i64 _ hok.2.1 | exact i64 _ hok.2.2.1 | exact i64 _ hok.2.2.2.1 | exact i64 _ hok.2.2.2.2.1 | exact i64 _ hok.2.2.2.2.2.2)
        refine cl_spec (zeros_ok hz) (fun _ _ _ hc => absurd hc (by decide +kernel)) ?_
        rintro u k3 ⟨rfl, rfl⟩
        by_cases hz5 : ∀ x ∈ [m.sh, m.sn, m.ba, m.mp, m.ln], x = 0
        · have hz6 : m.sh = 0 ∧ m.sn = 0 ∧ m.ba = 0 ∧ m.mp = 0 ∧ m.ln = 0 := by simpa using hz5
          by_cases c1 : 1 ≤ m.data.length
          · have c1' : (1 : Int) ≤ m.data.length := by omega
            have e : ((m.data.length : Int) ≤ 64) ↔ m.form := by unfold Rec.form; omega
            simp only [go_sem, simprocAttr, r1, hg1p, g7, decide_eq_true hz5, c1', eq_self, decide_true]
            exact ⟨congrArg Value.bool (decide_eq_decide.2 e), hq.trans (.push _ _)⟩
          · have c1' : ¬ (1 : Int) ≤ m.data.length := by omega
            simp only [go_sem, simprocAttr, r1, hg1p, g7, decide_eq_true hz5, c1', eq_self, decide_true, decide_false]
            exact ⟨hno (by unfold Rec.form; omega), hq.trans (.push _ _)⟩
        · have hz6 : ¬ (m.sh = 0 ∧ m.sn = 0 ∧ m.ba = 0 ∧ m.mp = 0 ∧ m.ln = 0) := by simpa using hz5
          simp only [go_sem, simprocAttr, r1, hg1p, g7, decide_eq_false hz5, eq_self, decide_true, decide_false]
          exact ⟨hno (by unfold Rec.form; omega), hq.trans (.push _ _)⟩
      · by_cases k3 : m.kd = 3
        · simp only [go_sem, simprocAttr, r1, hg1, g0, g1, g2, g3, g4, g6, k1, k2, k3, eq_self, decide_true, decide_false]
          have hz := zs (l := [m.sh, m.sn, m.ba, m.mp]) (by simp) (by simp only [List.mem_cons, List.not_mem_nil, or_false]; rintro x (rfl | rfl | rfl | rfl) <;> first | exact i64 _ hok.2.1 | exact i64 _ hok.2.2.1 | exact i64 _ hok.2.2.2.1 | exact i64 _ hok.2.2.2.2.1)
          refine cl_spec (zeros_ok hz) (fun _ _ _ hc => absurd hc (by decide +kernel)) ?_
          rintro u k5 ⟨rfl, rfl⟩
          by_cases hz5 : ∀ x ∈ [m.sh, m.sn, m.ba, m.mp], x = 0
          · have hz6 : m.sh = 0 ∧ m.sn = 0 ∧ m.ba = 0 ∧ m.mp = 0 := by simpa using hz5
            by_cases c1 : 1 ≤ m.ln
            · have e : ((m.data.length : Int) = 0) ↔ m.form := by unfold Rec.form; omega
              simp only [go_sem, simprocAttr, r1, hg1p, g7, g6, decide_eq_true hz5, c1, eq_self, decide_true]
              exact ⟨congrArg Value.bool (decide_eq_decide.2 e), hq.trans (.push _ _)⟩
            · simp only [go_sem, simprocAttr, r1, hg1p, g7, g6, decide_eq_true hz5, c1, eq_self, decide_true, decide_false]
              exact ⟨hno (by unfold Rec.form; omega), hq.trans (.push _ _)⟩
          · have hz6 : ¬ (m.sh = 0 ∧ m.sn = 0 ∧ m.ba = 0 ∧ m.mp = 0) := by simpa using hz5
            simp only [go_sem, simprocAttr, r1, hg1p, g7, g6, decide_eq_false hz5, eq_self, decide_true, decide_false]
            exact ⟨hno (by unfold Rec.form; omega), hq.trans (.push _ _)⟩
        · by_cases k4 : m.kd = 4
          · simp only [go_sem, simprocAttr, r1, hg1, g0, g1, g2, g3, g4, g5, k1, k2, k3, k4, eq_self, decide_true, decide_false]
            have hz := zs (l := [m.sh, m.sn, m.ba, m.mp, m.of_]) (by simp) (by simp only [List.mem_cons, List.not_mem_nil, or_false]; rintro x (rfl | rfl | rfl | rfl | rfl) <;> first | exact i64 _ hok.2.1 | exact i64 _ hok.2.2.1 | exact i64 _ hok.2.2.2.1 | exact i64 _ hok.2.2.2.2.1 | exact i64 _ hok.2.2.2.2.2.1)
            refine cl_spec (zeros_ok hz) (fun _ _ _ hc => absurd hc (by decide +kernel)) ?_
            rintro u k5 ⟨rfl, rfl⟩
            by_cases hz5 : ∀ x ∈ [m.sh, m.sn, m.ba, m.mp, m.of_], x = 0
            · have hz6 : m.sh = 0 ∧ m.sn = 0 ∧ m.ba = 0 ∧ m.mp = 0 ∧ m.of_ = 0 := by simpa using hz5
              have e : ((m.data.length : Int) = 0) ↔ m.form := by unfold Rec.form; omega
              simp only [go_sem, simprocAttr, r1, hg1p, g7, decide_eq_true hz5, eq_self, decide_true]
              exact ⟨congrArg Value.bool (decide_eq_decide.2 e), hq.trans (.push _ _)⟩
            · have hz6 : ¬ (m.sh = 0 ∧ m.sn = 0 ∧ m.ba = 0 ∧ m.mp = 0 ∧ m.of_ = 0) := by simpa using hz5
              simp only [go_sem, simprocAttr, r1, hg1p, g7, decide_eq_false hz5, eq_self, decide_true, decide_false]
              exact ⟨hno (by unfold Rec.form; omega), hq.trans (.push _ _)⟩
          · simp only [go_sem, simprocAttr, k1, k2, k3, k4, eq_self, decide_true, decide_false]
            exact ⟨hno (by unfold Rec.form; omega), hq⟩
/-- Is there one of which a function says so? -/
theorem if_rec {xs : List Rec} {a : Option Addr} {n c : Nat} (hs : IsSl rRec S h xs (.slice a n c)) {F : FuncId} {p : Rec → Prop} [DecidablePred p] (hF : ∀ {k : AHeap} {r : Rec} {v : Value}, Words S k r.data v → Does Try.prog F #[.agg (r.cs v).toArray] k (fun u k' => u = .bool (decide (p r)) ∧ k.quiet k')) :
    Does Try.prog 60 #[.slice a n c, .func (.func F) #[] #[]] h (fun u h' => h.quiet h' ∧ ∃ z, u = .int .i64 z ∧ (0 ≤ z ↔ ∃ x ∈ xs, p x)) := by
  have hll := hs.len
  obtain rfl := hll.1
  refine spec_go mixed Try.func60 rfl Try.results60 (n := Try.f60.ntmps) (by kernel_rfl) (by simp) ?_
  simp only [go_sem, simprocAttr]
  refine go_loop (fun z ρ k => ∃ i : Nat, i ≤ xs.length ∧ z = xs.length - i ∧ h.quiet k ∧ (∀ x ∈ xs.take i, ¬ p x) ∧ ρ 0 = .slice a xs.length c ∧ ρ 1 = .func (.func F) #[] #[] ∧ ρ 7 = .int .i64 xs.length ∧ ρ 8 = .int .i64 i) xs.length ⟨0, by omega, by omega, .refl _, by simp, by simp only [go_sem, simprocAttr]⟩ ?_
  rintro z ρ k ⟨i, hi, rfl, q, hall, r0, r1, r7, r8⟩
  simp only [go_sem, simprocAttr, r0, r1, r7, r8]
  refine cnd_decide (fun hy => ?_) (fun hy => ?_)
  · have h1 : i < xs.length := by omega
    obtain ⟨b, off, sp, cc, md, x, lv, hA, _, hg, hxi, hlv, _, hle, hdt⟩ := IsSl.atR (hs.quiet q) h1
    obtain ⟨al, cl, rfl⟩ := hlv.shape
    have e9 : IntKind.i64.wrap ((i : Int) + 1) = ((i + 1 : Nat) : Int) := by rw [wi64] <;> omega
    simp only [go_sem, simprocAttr, r0, r1, r7, r8, hA, hg, hle, hdt, h1, hy, rc_len, rc_one, rc_take, rc_put]
    refine cl_spec (hF hlv) (fun _ _ _ hc => absurd hc (by decide +kernel)) ?_
    rintro u k' ⟨rfl, q'⟩
    by_cases hp : p x
    · simp only [go_sem, simprocAttr, hp, decide_true]
      exact ⟨q.trans q', i, rfl, by simp; exact ⟨x, List.mem_of_getElem? hxi, hp⟩⟩
    · simp only [go_sem, simprocAttr, r0, r1, r7, r8, hp, decide_false, e9]
      refine Hold.mk ⟨xs.length - (i + 1), by omega, i + 1, by omega, rfl, q.trans q', fun y hm => ?_, by simp only [go_sem, simprocAttr, r0, r1, r7, hA]⟩
      rw [List.take_add_one, hxi] at hm
      rcases List.mem_append.1 hm with hm | hm
      · exact hall y hm
      · obtain rfl : y = x := by simpa using hm
        exact hp
  · have : i = xs.length := by omega
    subst this
    rw [List.take_length] at hall
    simp only [go_sem, simprocAttr]
    exact ⟨q, -1, rfl, by simp; exact hall⟩
theorem cf_rec {xs : List Rec} {a : Option Addr} {n c : Nat} (hs : IsSl rRec S h xs (.slice a n c)) {F : FuncId} {p : Rec → Prop} [DecidablePred p] (hF : ∀ {k : AHeap} {r : Rec} {v : Value}, Words S k r.data v → Does Try.prog F #[.agg (r.cs v).toArray] k (fun u k' => u = .bool (decide (p r)) ∧ k.quiet k')) :
    Does Try.prog 34 #[.slice a n c, .func (.func F) #[] #[]] h (fun u h' => h.quiet h' ∧ u = .bool (decide (∃ x ∈ xs, p x))) := by
  refine spec_go mixed Try.func34 rfl Try.results34 (n := Try.f34.ntmps) (by kernel_rfl) (by simp) ?_
  simp only [go_sem, simprocAttr]
  refine cl_spec (if_rec hs hF) (fun _ _ _ hc => absurd hc (by decide +kernel)) ?_
  rintro u k ⟨q, z, rfl, e⟩
  simp only [go_sem, simprocAttr]
  exact ⟨q, ge0 e⟩
theorem notMay1_ok {m : Rec} (hv : Words S h m.data v) : Does Try.prog 35 #[.agg (m.cs v).toArray] h (fun u h' => u = .bool (decide (¬ m.may)) ∧ h.quiet h') := by
  obtain ⟨a, c, rfl⟩ := hv.shape
  refine spec_go mixed Try.func35 rfl Try.results35 (n := Try.f35.ntmps) (by kernel_rfl) (by simp) ?_
  simp only [go_sem, simprocAttr, rc_len, rc_one, rc_take, rc_put]
  refine cl_spec (May_ok (hv.quiet (.push _ _))) (fun _ _ _ hc => absurd hc (by decide +kernel)) ?_
  rintro u k ⟨rfl, q⟩
  simp only [go_sem, simprocAttr]
  exact ⟨by simp, (AHeap.quiet.push _ _).trans q⟩
theorem notMay2_ok {m : Rec} (hv : Words S h m.data v) : Does Try.prog 54 #[.agg (m.cs v).toArray] h (fun u h' => u = .bool (decide (¬ m.may)) ∧ h.quiet h') := by
  obtain ⟨a, c, rfl⟩ := hv.shape
  refine spec_go mixed Try.func54 rfl Try.results54 (n := Try.f54.ntmps) (by kernel_rfl) (by simp) ?_
  simp only [go_sem, simprocAttr, rc_len, rc_one, rc_take, rc_put]
  refine cl_spec (May_ok (hv.quiet (.push _ _))) (fun _ _ _ hc => absurd hc (by decide +kernel)) ?_
  rintro u k ⟨rfl, q⟩
  simp only [go_sem, simprocAttr]
  exact ⟨by simp, (AHeap.quiet.push _ _).trans q⟩
theorem between_ok {m : Rec} (hv : Words S h m.data v) : Does Try.prog 56 #[.agg (m.cs v).toArray] h (fun u h' => u = .bool (decide (m.kd = 2 ∨ m.kd = 3)) ∧ h.quiet h') := by
  obtain ⟨a, c, rfl⟩ := hv.shape
  refine spec_go mixed Try.func56 rfl Try.results56 (n := Try.f56.ntmps) (by kernel_rfl) (by simp) ?_
  simp only [go_sem, simprocAttr, rc_len, rc_one, rc_take, rc_put, rc_0]
  by_cases k2 : m.kd = 2
  · simp only [go_sem, simprocAttr, k2, eq_self, decide_true, true_or, rc_0]
    all_goals exact .push _ _
  · simp only [go_sem, simprocAttr, k2, decide_false, false_or, rc_0]
    all_goals exact .push _ _
theorem notBetw_ok {m : Rec} (hv : Words S h m.data v) : Does Try.prog 55 #[.agg (m.cs v).toArray] h (fun u h' => u = .bool (decide (¬ (m.kd = 2 ∨ m.kd = 3))) ∧ h.quiet h') := by
  obtain ⟨a, c, rfl⟩ := hv.shape
  refine spec_go mixed Try.func55 rfl Try.results55 (n := Try.f55.ntmps) (by kernel_rfl) (by simp) ?_
  simp only [go_sem, simprocAttr, rc_len, rc_one, rc_take, rc_put]
  refine cl_spec (between_ok (hv.quiet (.push _ _))) (fun _ _ _ hc => absurd hc (by decide +kernel)) ?_
  rintro u k ⟨rfl, q⟩
  simp only [go_sem, simprocAttr]
  exact ⟨by simp, (AHeap.quiet.push _ _).trans q⟩
end
end Go.Proofs.Ytolnacokdjognaa
