/- shard: a call of the law's. -/
import Derived.Test.YtjkganmkfhciiaaShG
set_option linter.unusedSimpArgs false
set_option linter.unusedVariables false
set_option linter.unnecessarySimpa false
set_option maxRecDepth 100000
namespace Go.Proofs.Ytjkganmkfhciiaa
open Go.AM

def SAct.cs (a : SAct) (v w : Value) : List Value := [.int .u8 (a.kd : Nat), .int .i64 a.op.kd, .int .i64 a.op.off, .int .i64 a.op.ln, v, .int .i64 a.id, .bool a.yes, w]
def rBool : Rep Bool := .bool
def rSAct : Rep SAct := (Rep.pair rB (.pair rBop (.pair rI (.pair .bool rBool.list)))).via fun a => (a.kd, a.op, a.id, a.yes, a.keep)
def SAct.inI (a : SAct) : Prop := a.op.inI ∧ Proofs.Ytjkganmkfhciiaa.inI a.id ∧ a.kd < 256
theorem rSAct_iff {S : Nat → Prop} {h : AHeap} {a : SAct} {cs : List Value} : rSAct.R S h a cs ↔ ∃ v w, cs = a.cs v w ∧ a.inI ∧ Words S h a.op.data v ∧ IsSl rBool S h a.keep w := by
  constructor
  · rintro ⟨c1, c2, rfl, ⟨rfl, h1⟩, c3, c4, rfl, h2, c5, c6, rfl, ⟨rfl, h3⟩, c7, c8, rfl, rfl, w, rfl, h4⟩
    obtain ⟨v, rfl, h5, h6⟩ := rBop_iff.1 h2
    have h1' : (a.kd : Int) ≤ IntKind.u8.max := h1
    have : a.kd < 256 := by rw [u8_max] at h1'; omega
    exact ⟨v, w, rfl, ⟨h5, inI_iff.2 h3, this⟩, h6, h4⟩
  · rintro ⟨v, w, rfl, ⟨h5, h3, h7⟩, h6, h4⟩
    have : (a.kd : Int) ≤ IntKind.u8.max := by rw [u8_max]; omega
    exact ⟨[_], _, rfl, ⟨rfl, this⟩, a.op.cs v, _, rfl, rBop_iff.2 ⟨v, rfl, h5, h6⟩, [_], _, rfl, ⟨rfl, inI_iff.1 h3⟩, [_], [_], rfl, rfl, w, rfl, h4⟩
theorem sa_len (a : SAct) (v w : Value) : (a.cs v w).length = 8 := rfl
theorem sa_one (m : SAct) (a b : Option Addr) (n c n' c' : Nat) : (m.cs (.slice a n c) (.slice b n' c')).all one = true := rfl
theorem sa_take (a : SAct) (v w : Value) : (a.cs v w).take 8 = a.cs v w := rfl
theorem sa_0 (a : SAct) (v w : Value) : (a.cs v w)[0]? = some (.int .u8 (a.kd : Nat)) := rfl
theorem sa_op (a : SAct) (v w : Value) : ((a.cs v w).drop 1).take 4 = a.op.cs v := rfl
theorem sa_5 (a : SAct) (v w : Value) : (a.cs v w)[5]? = some (.int .i64 a.id) := rfl
theorem sa_6 (a : SAct) (v w : Value) : (a.cs v w)[6]? = some (.bool a.yes) := rfl
theorem sa_7 (a : SAct) (v w : Value) : (a.cs v w)[7]? = some w := rfl
theorem IsSl.atS {S : Nat → Prop} {h : AHeap} {xs : List SAct} {a : Option Addr} {n cap : Nat} (hs : IsSl rSAct S h xs (.slice a n cap)) {i : Nat} (hi : i < n) :
    ∃ b off sp c md x v w, a = some ⟨b, off, sp⟩ ∧ S b ∧ h.get b = .cells c md ∧ xs[i]? = some x ∧ Words S h x.op.data v ∧ IsSl rBool S h x.keep w ∧ x.inI ∧ off + i * 8 + 8 ≤ c.length ∧ (c.drop (off + i * 8)).take 8 = x.cs v w := by
  obtain ⟨b, off, sp, c, md, cs, x, h1, h2, h3, h4, h5, h6, h7⟩ := hs.at 8 rfl hi
  obtain ⟨v, w, rfl, h8, h9, h10⟩ := rSAct_iff.1 h5
  exact ⟨b, off, sp, c, md, x, v, w, h1, h2, h3, h4, h9, h10, h8, h6, h7⟩
section
variable {own own' own'' : Nat → Nat} {h h' h'' : AHeap} {S S' : Nat → Prop} {m : Sm} {id : Nat} {v w : Value} {b : Nat}
theorem take_step {α : Type} {xs ys : List α} {i : Nat} {x y : α} (h : xs.take i = ys.take i) (hx : xs[i]? = some x) (hy : ys[i]? = some y) (e : x = y) : xs.take (i + 1) = ys.take (i + 1) := by
  rw [List.take_add_one, List.take_add_one, h, hx, hy, e]
theorem Words_ok {xs ys : List Nat} (hx : Words S h xs v) (hy : Words S' h ys w) : Does Try.prog 14 #[v, w] h (fun u h' => u = .bool (decide (xs = ys)) ∧ h' = h) := by
  obtain ⟨a, c, rfl⟩ := hx.shape
  obtain ⟨a2, c2, rfl⟩ := hy.shape
  have hxl := hx.len
  have hyl := hy.len
  refine spec_go mixed Try.func14 rfl Try.results14 (n := Try.f14.ntmps) (by kernel_rfl) (by simp) ?_
  simp only [go_sem, simprocAttr]
  by_cases hl : xs.length = ys.length
  · have hl' : (xs.length : Int) = ys.length := by omega
    simp only [go_sem, simprocAttr, hl', decide_true, decide_false]
    refine go_loop (fun z ρ k => ∃ i : Nat, i ≤ xs.length ∧ z = xs.length - i ∧ k = h ∧ xs.take i = ys.take i ∧ ρ 0 = .slice a xs.length c ∧ ρ 1 = .slice a2 ys.length c2 ∧ ρ 5 = .int .i64 i) xs.length ⟨0, by omega, by omega, rfl, rfl, by simp only [go_sem, simprocAttr]⟩ ?_
    rintro z ρ k ⟨i, hi, rfl, rfl, ht, r0, r1, r5⟩
    simp only [go_sem, simprocAttr, r0, r1, r5]
    refine cnd_decide (fun hq => ?_) (fun hq => ?_)
    · have h1 : i < xs.length := by omega
      have h2 : i < ys.length := by omega
      obtain ⟨b, off, sp, cc, md, x, hA, _, hg, hxi, _, hc⟩ := hx.atN h1
      obtain ⟨b', off', sp', cc', md', y, hA', _, hg', hyi, _, hc'⟩ := hy.atN h2
      have e9 : IntKind.i64.wrap ((i : Int) + 1) = ((i + 1 : Nat) : Int) := by rw [wi64] <;> omega
      simp only [go_sem, simprocAttr, r0, r1, r5, hA, hA', hg, hg', hc, hc', h1, h2]
      by_cases e : x = y
      · have e' : (x : Int) = y := by omega
        simp only [go_sem, simprocAttr, r0, r1, r5, e', decide_true, decide_false, e9]
        exact Hold.mk ⟨xs.length - (i + 1), by omega, i + 1, by omega, rfl, rfl, take_step ht hxi hyi e, by simp only [go_sem, simprocAttr, r0, r1, hA, hA']⟩
      · have e' : ¬ (x : Int) = y := by omega
        simp only [go_sem, simprocAttr, r0, r1, r5, e', decide_true, decide_false]
        rw [decide_eq_false (fun e2 => by subst e2; rw [hxi] at hyi; cases hyi; exact e rfl)]
    · have : i = xs.length := by omega
      subst this
      rw [List.take_length, hl, List.take_length] at ht
      simp only [go_sem, simprocAttr, ht, decide_true]
  · have hl' : ¬ (xs.length : Int) = ys.length := by omega
    simp only [go_sem, simprocAttr, hl', decide_true, decide_false]
    rw [decide_eq_false (fun e => hl (by rw [e]))]
theorem does_ok (a : ShAt own h id m) (g : m.good b) (hb : b ≤ 1073740000) {x : SAct} (hx : x.inI) (hv : Words S h x.op.data v) (hw : IsSl rBool S h x.keep w) (hS : ∀ j, S j → own j ≠ 1 ∧ own j ≠ 6 ∧ own j ≠ 7) :
    Does Try.prog 10 #[.pointer (some ⟨id, 0, none⟩), .agg (x.cs v w).toArray] h (fun u h' => u = .int .i64 (m.act x).1 ∧ ∃ own', ShAt own' h' id (m.act x).2 ∧ Ks shT own h own' h') := by
  obtain ⟨av, cv, rfl⟩ := hv.shape
  obtain ⟨aw, cw, rfl⟩ := hw.shape
  unfold Sm.act
  refine spec_go mixed Try.func10 rfl Try.results10 (n := Try.f10.ntmps) (by kernel_rfl) (by simp) ?_
  obtain ⟨r, hr⟩ : ∃ r, x.kd % 8 = r := ⟨_, rfl⟩
  have et : ((x.kd : Nat) : Int).tmod 8 = (r : Int) := by rw [← hr]; rfl
  have hr8 : r < 8 := by omega
  rw [hr]
  simp only [go_sem, simprocAttr, sa_len, sa_one, sa_take, sa_0, et]
  have q0 : h.quiet (h.push (.cells (x.cs (.slice av x.op.data.length cv) (.slice aw x.keep.length cw)) .rw)) := .push _ _
  have g0 : (h.push (.cells (x.cs (.slice av x.op.data.length cv) (.slice aw x.keep.length cw)) .rw)).get h.next = .cells (x.cs (.slice av x.op.data.length cv) (.slice aw x.keep.length cw)) .rw := by simp
  generalize h.push (.cells (x.cs (.slice av x.op.data.length cv) (.slice aw x.keep.length cw)) .rw) = k at q0 g0
  have a0 := a.quiet q0 0
  have k0 : Ks shT own h (bump own h 0) k := .quiet q0 0
  have hw0 : IsSl rBool (fun j => S j ∧ j < h.next) k x.keep (.slice aw x.keep.length cw) := hw.bound.quiet q0
  have hS0 : ∀ j, (S j ∧ j < h.next) → bump own h 0 j ≠ 1 ∧ bump own h 0 j ≠ 6 ∧ bump own h 0 j ≠ 7 := fun j hj => by rw [bump_lt hj.2]; exact hS j hj.1
  generalize bump own h 0 = ow at a0 k0 hS0
  have c6 : ∀ {ow' k'}, Ks (· = 6) ow k ow' k' → Ks shT own h ow' k' := fun kk => k0.trans (kk.weaken fun t e => by subst e; unfold shT; decide)
  obtain ⟨ho, hi, hk⟩ := hx
  rcases (by omega : r = 0 ∨ r = 1 ∨ r = 2 ∨ r = 3 ∨ r = 4 ∨ r = 5 ∨ r = 6 ∨ r = 7) with rfl | rfl | rfl | rfl | rfl | rfl | rfl | rfl
  · simp only [go_sem, simprocAttr, g0, sa_len, sa_op]
    refine cl_spec (sDo_ok a0 g (by omega) ho (hv.quiet q0)) (fun _ _ _ hc => absurd hc (by decide +kernel)) ?_
    rintro u k1 ⟨rfl, ow1, a1, k1_⟩
    simp only [go_sem, simprocAttr]
    exact ⟨ow1, a1, k0.trans k1_⟩
  · simp only [go_sem, simprocAttr, g0]
    refine cl_spec (sFlush_ok a0) (fun _ _ _ hc => absurd hc (by decide +kernel)) ?_
    rintro u k1 ⟨rfl, a1, k1_⟩
    simp only [go_sem, simprocAttr]
    exact ⟨ow, a1, c6 k1_⟩
  · simp only [go_sem, simprocAttr, g0, sa_6]
    refine cl_spec (sFreeze_ok a0) (fun _ _ _ hc => absurd hc (by decide +kernel)) ?_
    rintro u k1 ⟨rfl, a1, k1_⟩
    simp only [go_sem, simprocAttr]
    exact ⟨ow, a1, c6 k1_⟩
  · simp only [go_sem, simprocAttr, g0, sa_5]
    refine cl_spec (sSnap_ok a0 g (by omega) hi) (fun _ _ _ hc => absurd hc (by decide +kernel)) ?_
    rintro u k1 ⟨rfl, ow1, a1, k1_⟩
    simp only [go_sem, simprocAttr]
    exact ⟨ow1, a1, k0.trans k1_⟩
  · simp only [go_sem, simprocAttr, g0, sa_5]
    refine cl_spec (sDelete_ok a0 g) (fun _ _ _ hc => absurd hc (by decide +kernel)) ?_
    rintro u k1 ⟨rfl, ow1, a1, k1_⟩
    simp only [go_sem, simprocAttr]
    exact ⟨ow1, a1, k0.trans k1_⟩
  · simp only [go_sem, simprocAttr, g0, sa_5]
    refine cl_spec (sRollback_ok a0) (fun _ _ _ hc => absurd hc (by decide +kernel)) ?_
    rintro u k1 ⟨rfl, a1, k1_⟩
    simp only [go_sem, simprocAttr]
    exact ⟨by simp [Sm.rollback], ow, a1, c6 k1_⟩
  · simp only [go_sem, simprocAttr, g0, sa_7]
    refine cl_spec (sCrash_ok a0 g hb hw0 hS0) (fun _ _ _ hc => absurd hc (by decide +kernel)) ?_
    rintro u k1 ⟨rfl, ow1, a1, k1_⟩
    simp only [go_sem, simprocAttr]
    exact ⟨ow1, a1, k0.trans k1_⟩
  · simp only [go_sem, simprocAttr]
    exact ⟨ow, a0, k0⟩
end
end Go.Proofs.Ytjkganmkfhciiaa
