/- cow: a tree's parts are handed on. -/
import Derived.Test.YtfdbadpiklmbaaaCoD
set_option linter.unusedSimpArgs false
set_option linter.unusedVariables false
set_option linter.unnecessarySimpa false
set_option maxRecDepth 100000
namespace Go.Proofs.Ytfdbadpiklmbaaa
open Go.AM

/-- A list of one's own. -/
def OwnL {α : Type} (r : Rep α) (Z : Nat → Prop) (h : AHeap) (xs : List α) (v : Value) : Prop := Lst r 0 (fun _ => False) h xs v ∧ ∀ j, blk v = some j → Z j
theorem OwnL.mono {α : Type} {r : Rep α} {Z Z' : Nat → Prop} {h h' : AHeap} {xs : List α} {v : Value} (ho : OwnL r Z h xs v) (hn : h.next ≤ h'.next) (hm : ∀ j, Z j → j < h.next → Z' j ∧ h'.get j = h.get j) : OwnL r Z' h' xs v :=
  ⟨ho.1.mono (Nat.le_refl _) hn (fun _ e _ _ => e.elim) (fun j hj hl => (hm j (ho.2 j hj) hl).2), fun j hj => (hm j (ho.2 j hj) (ho.1.blk_ge hj).2).1⟩
theorem OwnL.nil {α : Type} (r : Rep α) (Z : Nat → Prop) (h : AHeap) : OwnL r Z h [] (.slice none 0 0) := ⟨.nil _ _ _ _, fun j e => by cases e⟩
theorem OwnL.sl {α : Type} {r : Rep α} {Z : Nat → Prop} {h : AHeap} {xs : List α} {v : Value} (ho : OwnL r Z h xs v) : IsSl r (fun _ => True) h xs v := ho.1.isSl (fun _ _ _ => trivial) (fun _ _ => trivial)
theorem OwnL.lt {α : Type} {r : Rep α} {Z : Nat → Prop} {h : AHeap} {xs : List α} {v : Value} (ho : OwnL r Z h xs v) {j : Nat} (hj : blk v = some j) : j < h.next := (ho.1.blk_ge hj).2
theorem OwnL.slz {α : Type} {r : Rep α} {Z : Nat → Prop} {h : AHeap} {xs : List α} {v : Value} (ho : OwnL r Z h xs v) : IsSl r Z h xs v := by
  obtain ⟨⟨css, ha, h0, ⟨a, rfl, rfl, k⟩ | ⟨ob, rfl, hlo, hg⟩⟩, hz⟩ := ho
  · exact .empty fun ad e => .inl (k ad e).1
  · refine ⟨_, _, css, rfl, Nat.le_refl _, Nat.le_trans h0 (by decide), (fun h => by cases h), (fun ad h => by cases h; exact .inr rfl), ?_, fun _ => ⟨_, _, _, rfl, hz _ rfl, hg, ?_, ?_⟩⟩
    · exact ha.moves fun j hj hl => hj.1.elim
    · rw [ha.flat]; simp
    · rw [List.drop_zero, List.take_of_length_le]; rw [ha.flat]; exact Nat.le_refl _
/-- One more, behind a box. -/
theorem OwnL.app2 {α : Type} {r : Rep α} {Z : Nat → Prop} {h : AHeap} {xs : List α} {v : Value} {y : α} {cs : List Value} {bytes : Nat} (ho : OwnL r Z h xs v) (sz : Nat) (hsz : r.sz = sz) (hy : ∀ k, r.R (fun _ => False) k y cs) (hb : (xs.length + 1) * bytes ≤ 140737488355328) (h62 : xs.length + 1 ≤ 281474976710656) :
    ∃ v' h', aappend (h.push (.cells cs .rw)) sz bytes v 1 cs = some (v', h') ∧ OwnL r (up Z h) h' (xs ++ [y]) v' ∧ Fw (fun j => blk v = some j) h h' ∧ (blk v' = blk v ∨ ∃ ob, blk v' = some ob ∧ h.next ≤ ob) ∧ ∃ a n c, v' = .slice a n c := by
  have q := AHeap.quiet.push h (.cells cs .rw)
  have ho2 := ho.mono q.1 (fun j hj hl => ⟨hj, q.2 j hl⟩)
  obtain ⟨v', h', e, hl, hf, hn⟩ := ho2.1.app1 (y := y) (cs := cs) (bytes := bytes) sz hsz (r.weaken (hy _) (fun _ e => e.elim)) hb h62 (Nat.zero_le _)
  have hn' : blk v' = blk v ∨ ∃ ob, blk v' = some ob ∧ h.next ≤ ob := hn.imp id fun ⟨ob, h1, h2⟩ => ⟨ob, h1, by have := q.1; omega⟩
  obtain ⟨a, c, rfl, _⟩ := hl.len
  refine ⟨_, h', e, ⟨hl, fun j hj => ?_⟩, hf.after q, hn', _, _, _, rfl⟩
  rcases hn' with hn | ⟨ob, hn, hge⟩
  · exact .inl (ho.2 j (hn ▸ hj))
  · rw [hn] at hj; cases hj; exact .inr hge

def rExt : Rep Ext := (Rep.pair rI (.pair rI (.pair rI rI))).via fun x => (x.off, x.len, x.phys, x.birth)
def Ext.inI (x : Ext) : Prop := Proofs.Ytfdbadpiklmbaaa.inI x.off ∧ Proofs.Ytfdbadpiklmbaaa.inI x.len ∧ Proofs.Ytfdbadpiklmbaaa.inI x.phys ∧ Proofs.Ytfdbadpiklmbaaa.inI x.birth
theorem rExt_iff {S : Nat → Prop} {h : AHeap} {x : Ext} {cs : List Value} : rExt.R S h x cs ↔ cs = x.cs ∧ x.inI := by
  constructor
  · rintro ⟨c1, c2, rfl, ⟨rfl, h1⟩, c3, c4, rfl, ⟨rfl, h2⟩, c5, c6, rfl, ⟨rfl, h3⟩, ⟨rfl, h4⟩⟩
    exact ⟨rfl, inI_iff.2 h1, inI_iff.2 h2, inI_iff.2 h3, inI_iff.2 h4⟩
  · rintro ⟨rfl, h1, h2, h3, h4⟩
    exact ⟨[_], [_, _, _], rfl, ⟨rfl, inI_iff.1 h1⟩, [_], [_, _], rfl, ⟨rfl, inI_iff.1 h2⟩, [_], [_], rfl, ⟨rfl, inI_iff.1 h3⟩, ⟨rfl, inI_iff.1 h4⟩⟩
theorem Ext.ok.inI {x : Ext} (h : x.ok) : x.inI := by
  unfold Ext.ok at h
  refine ⟨⟨by omega, by omega⟩, ⟨by omega, by omega⟩, ⟨by omega, by omega⟩, ⟨by omega, by omega⟩⟩

theorem ite_len {α : Type} {p : Prop} [Decidable p] {l : List α} {n : Nat} (h : l.length ≤ n) : (if p then l else []).length ≤ n := by
  split
  · exact h
  · exact Nat.zero_le _
theorem OwnL.set {α : Type} {r : Rep α} {Z : Nat → Prop} {h : AHeap} {xs : List α} {v : Value} (ho : OwnL r Z h xs v) {n : Nat} (hne : blk v ≠ some n) (o : AObj) : OwnL r Z (h.set n o) xs v :=
  ⟨ho.1.mono (Nat.le_refl _) (by simp) (fun _ e _ _ => e.elim) (fun j hj _ => AHeap.get_set_ne _ _ (by rintro rfl; exact hne hj)), ho.2⟩
theorem OwnL.weaken {α : Type} {r : Rep α} {Z Z' : Nat → Prop} {h : AHeap} {xs : List α} {v : Value} (ho : OwnL r Z h xs v) (hm : ∀ j, Z j → Z' j) : OwnL r Z' h xs v := ⟨ho.1, fun j hj => hm j (ho.2 j hj)⟩
def T.parts (f t : Int) : T → List Ext
  | .nil => []
  | .node l x r => (if f < x.off then l.parts f t else []) ++ ((if x.lies f t then [x.clip f t] else []) ++ (if x.off + x.len < t then r.parts f t else []))
theorem T.parts_len (f t : Int) : ∀ a : T, (a.parts f t).length ≤ a.size
  | .nil => Nat.le_refl _
  | .node l x r => by
    have := l.parts_len f t; have := r.parts_len f t
    simp only [T.parts, T.size, List.length_append]
    have h1 : (if f < x.off then l.parts f t else []).length ≤ l.size := ite_len (by omega)
    have h2 : (if x.lies f t then [x.clip f t] else []).length ≤ 1 := ite_len (Nat.le_refl 1)
    have h3 : (if x.off + x.len < t then r.parts f t else []).length ≤ r.size := ite_len (by omega)
    omega

section
variable {h h0 : AHeap} {S S' Z : Nat → Prop}
def clo (b : Nat) : Value := .func (.func 44) #[] #[.pointer (some ⟨b, 0, none⟩)]
/-- A cell with a list that grows. -/
def Out (h0 h : AHeap) (b : Nat) (out : List Ext) : Prop := h0.quiet h ∧ h0.next ≤ b ∧ ∃ v, h.get b = .cells [v] .rw ∧ OwnL rExt (h0.next ≤ ·) h out v ∧ blk v ≠ some b
theorem Out.quiet {h' : AHeap} {b : Nat} {out : List Ext} (o : Out h0 h b out) (q : h.quiet h') : Out h0 h' b out := by
  obtain ⟨q0, hb, v, hg, ho, hne⟩ := o
  exact ⟨q0.trans q, hb, v, (q.2 b (AHeap.lt_of_alive h (by rw [hg]; simp))).trans hg, ho.mono q.1 fun j hj hl => ⟨hj, q.2 j hl⟩, hne⟩
theorem part1_ok {b : Nat} {out : List Ext} {x : Ext} (ho : Out h0 h b out) (hx : x.inI) (hl : out.length ≤ 1099511627776) : Does Try.prog 44 #[x.ag, .pointer (some ⟨b, 0, none⟩)] h (fun u h' => u = .tuple #[] ∧ Out h0 h' b (out ++ [x])) := by
  obtain ⟨q0, hb, v, hg, ho, hne⟩ := ho
  obtain ⟨av, cv, rfl⟩ := ho.sl.shape
  have lb : b < h.next := AHeap.lt_of_alive h (by rw [hg]; simp)
  have q1 := AHeap.quiet.push h (.cells x.cs .rw)
  obtain ⟨v', h', e, ho', f, hn, a2, n2, c2, rfl⟩ := (ho.mono q1.1 (fun j hj hl => ⟨hj, q1.2 j hl⟩)).app2 (bytes := 32) (y := x) (cs := x.cs) 4 rfl (fun _ => rExt_iff.2 ⟨rfl, hx⟩) (by omega) (by omega)
  have gp : (h.push (.cells x.cs .rw)).get b = _ := (q1.2 b lb).trans hg
  have g1 : (h.push (.cells x.cs .rw)).get h.next = .cells x.cs .rw := AHeap.get_push_self _ _
  have lb1 : b < (h.push (.cells x.cs .rw)).next := by have := q1.1; omega
  have gf : h'.get b = _ := (f.2 b lb1 hne).trans gp
  have lb2 : b < h'.next := by have := f.1; omega
  have qf : h0.quiet h' := ⟨Nat.le_trans q0.1 (Nat.le_trans q1.1 f.1), fun j hj => (f.2 j (by have := q0.1; have := q1.1; omega) (fun e => by have := ho.2 j e; omega)).trans ((q0.trans q1).2 j hj)⟩
  have gs := fun o => AHeap.get_set_self h' o lb2
  have hne' : blk (.slice a2 n2 c2) ≠ some b := by
    rcases hn with hn | ⟨ob, hn, hge⟩
    · rw [hn]; exact hne
    · rw [hn]; intro e; cases e; omega
  unfold Ext.cs at e gp g1
  refine spec_go mixed Try.func44 rfl Try.results44 (n := Try.f44.ntmps) (by kernel_rfl) (by simp) ?_
  simp only [go_sem, simprocAttr, Ext.ag, gp, e, gf]
  exact ⟨qf.set' hb _, hb, _, gs _, (ho'.set hne' _).weaken (fun j hj => hj.elim (fun e => e) (fun e => by have := q0.1; have := q1.1; omega)), hne'⟩

/-- Handing on the parts of a tree. -/
theorem walk_ok {f t : Int} (hf : 0 ≤ f ∧ f ≤ 1099511627776) (ht : 0 ≤ t ∧ t ≤ 1099511627776) {b : Nat} : ∀ (a : T) {S : Nat → Prop} {h : AHeap} {v : Value} {out : List Ext} (ha : TrAt S h0 a v) (hok : a.all Ext.ok) (ho : Out h0 h b out) (hl : out.length + a.size ≤ 1099511627776),
    Does Try.prog 43 #[v, .int .i64 f, .int .i64 t, clo b] h (fun u h' => u = .tuple #[] ∧ Out h0 h' b (out ++ a.parts f t)) := by
  intro a
  induction a with
  | nil =>
    intro S h v out ha hok ho hl
    obtain rfl : v = _ := ha
    refine spec_go mixed Try.func43 rfl Try.results43 (n := Try.f43.ntmps) (by kernel_rfl) (by simp) ?_
    simp only [go_sem, simprocAttr]
    simpa [T.parts] using ho
  | node l x r ihl ihr =>
    intro S h v out ha hok ho hl
    obtain ⟨id, pl, pr, rfl, hs, hg, hal, har⟩ := ha
    have lid : id < h0.next := AHeap.lt_of_alive h0 (by rw [hg]; simp)
    have hs3 : (T.node l x r).size = 1 + l.size + r.size := rfl
    obtain ⟨ol, ox, or⟩ := hok
    have ox' := ox
    unfold Ext.ok at ox'
    have e1 : IntKind.i64.wrap (x.off + x.len) = x.off + x.len := by rw [wi64] <;> omega
    have hgh := (ho.1.2 id lid).trans hg
    have pl1 := l.parts_len f t
    obtain ⟨ppl, rfl, _⟩ := hal.ptr
    obtain ⟨ppr, rfl, _⟩ := har.ptr
    unfold T.parts
    refine spec_go mixed Try.func43 rfl Try.results43 (n := Try.f43.ntmps) (by kernel_rfl) (by simp) ?_
    simp only [go_sem, simprocAttr, hgh, nodeC, clo]
    refine cnd_cut (fun ρ k => Out h0 k b (out ++ if f < x.off then l.parts f t else []) ∧ ρ 0 = .pointer (some ⟨id, 0, none⟩) ∧ ρ 1 = .int .i64 f ∧ ρ 2 = .int .i64 t ∧ ρ 3 = clo b) (fun hc => ?_) (fun hc => ?_) ?_
    · have c1 : f < x.off := of_decide_eq_true hc
      rw [if_pos c1]
      simp only [go_sem, simprocAttr, hgh, nodeC]
      refine cl_spec (ihl hal ol ho (by omega)) (fun _ _ _ hc => absurd hc (by decide +kernel)) ?_
      rintro u k ⟨rfl, ho1⟩
      simp only [go_sem, simprocAttr]
      exact Hold.mk ⟨ho1, by simp only [go_sem, simprocAttr, clo]⟩
    · have c1 : ¬ f < x.off := of_decide_eq_false hc
      rw [if_neg c1, List.append_nil]
      simp only [go_sem, simprocAttr]
      exact Hold.mk ⟨ho, by simp only [go_sem, simprocAttr, clo]⟩
    have hle1 : (if f < x.off then l.parts f t else []).length ≤ l.size := ite_len (by omega)
    generalize (if f < x.off then l.parts f t else []) = A at hle1
    rintro ρ k ⟨ho1, r0, r1, r2, r3⟩
    have hgk := (ho1.1.2 id lid).trans hg
    simp only [go_sem, simprocAttr, r0, r1, r2, r3, hgk, nodeC]
    refine cl_spec (clip_ok (x := x) ox hf ht) (fun _ _ _ hc => absurd hc (by decide +kernel)) ?_
    rintro u k2 ⟨rfl, q2⟩
    have ho2 := ho1.quiet q2
    simp only [go_sem, simprocAttr, Ext.ag]
    refine cnd_gen fun k3 e3 => ?_
    have q3 : k2.quiet k3 := by rw [e3]; simp only [go_sem, simprocAttr]
    have g3 : k3.get k2.next = .cells (x.clip f t).cs .rw := by rw [e3]; simp only [go_sem, simprocAttr, Ext.cs]
    clear e3
    have ho3 := ho2.quiet q3
    refine cnd_cut (fun ρ k => Out h0 k b (out ++ A ++ if x.lies f t then [x.clip f t] else []) ∧ ρ 0 = .pointer (some ⟨id, 0, none⟩) ∧ ρ 1 = .int .i64 f ∧ ρ 2 = .int .i64 t ∧ ρ 3 = clo b) (fun hc => ?_) (fun hc => ?_) ?_
    · have c1 : x.lies f t := of_decide_eq_true hc
      rw [if_pos c1]
      simp only [go_sem, simprocAttr, r3, clo, g3, Ext.cs]
      refine cl_spec (part1_ok ho3 (Ext.ok_clip ox c1).inI (by rw [List.length_append]; omega)) (fun _ _ _ hc => absurd hc (by decide +kernel)) ?_
      rintro u k4 ⟨rfl, ho4⟩
      simp only [go_sem, simprocAttr]
      exact Hold.mk ⟨ho4, by simp only [go_sem, simprocAttr, r0, r1, r2, r3, clo]⟩
    · have c1 : ¬ x.lies f t := of_decide_eq_false hc
      rw [if_neg c1, List.append_nil]
      simp only [go_sem, simprocAttr]
      exact Hold.mk ⟨ho3, by simp only [go_sem, simprocAttr, r0, r1, r2, r3, clo]⟩
    have hle2 : (if x.lies f t then [x.clip f t] else []).length ≤ 1 := ite_len (Nat.le_refl 1)
    generalize (if x.lies f t then [x.clip f t] else []) = B at hle2
    rintro ρ k5 ⟨ho5, r0, r1, r2, r3⟩
    have hgk5 := (ho5.1.2 id lid).trans hg
    simp only [go_sem, simprocAttr, r0, r1, r2, r3, hgk5, nodeC, e1]
    refine cnd_decide (fun hc => ?_) (fun hc => ?_)
    · rw [if_pos hc]
      simp only [go_sem, simprocAttr, r0, r1, r2, r3, hgk5, nodeC]
      refine cl_spec (ihr har or ho5 (by rw [List.length_append, List.length_append]; omega)) (fun _ _ _ hc => absurd hc (by decide +kernel)) ?_
      rintro u k6 ⟨rfl, ho6⟩
      simp only [go_sem, simprocAttr]
      simpa using ho6
    · rw [if_neg hc]
      simp only [go_sem, simprocAttr]
      simpa using ho5
end
end Go.Proofs.Ytfdbadpiklmbaaa
