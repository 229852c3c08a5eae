/- shard: Since; it is alive. -/
import Derived.Test.YtjkganmkfhciiaaShI
set_option linter.unusedSimpArgs false
set_option linter.unusedVariables false
set_option linter.unnecessarySimpa false
set_option maxRecDepth 100000
namespace Go.Proofs.Ytjkganmkfhciiaa
open Go.AM

def Sm.old (m : Sm) (base : Int) : Int := if base = 0 then 0 else (m.find base).1
def Sm.since (m : Sm) (base x : Int) : List Bop × Int := if (m.find x).2 ≠ 0 then ([], (m.find x).2) else if base ≠ 0 ∧ (m.find base).2 ≠ 0 then ([], (m.find base).2) else (shortF (m.vol (m.old base)) (m.vol (m.find x).1) (m.vol (m.find x).1).length 0, 0)
section
variable {own own' own'' : Nat → Nat} {h h' h'' : AHeap} {S S' : Nat → Prop} {m : Sm} {id : Nat} {v w : Value} {b : Nat}
theorem diff_ok {ws bs : List Nat} {va vb : Value} (ha : Words S h ws va) (hb : Words S' h bs vb) (hn : ws.length = bs.length) (hl : bs.length ≤ 1024) : Does Try.prog 34 #[va, vb] h
    (fun u h' => ∃ w, u = .tuple #[w, .int .i64 0] ∧ Lst rBopO h.next (h.next ≤ ·) h' (shortF ws bs bs.length 0) w ∧ h.quiet h') := by
  obtain ⟨aa, ca, rfl⟩ := ha.shape
  obtain ⟨ab, cb, rfl⟩ := hb.shape
  refine spec_go mixed Try.func34 rfl Try.results34 (n := Try.f34.ntmps) (by kernel_rfl) (by simp) ?_
  simp only [go_sem, simprocAttr]
  have q0 : h.quiet ((h.push (.cells [.slice aa ws.length ca] .rw)).push (.cells [.slice ab bs.length cb] .rw)) := by simp only [go_sem, simprocAttr]
  have t : Two ((h.push (.cells [.slice aa ws.length ca] .rw)).push (.cells [.slice ab bs.length cb] .rw)) h.next (h.next + 1) ws bs (.slice aa ws.length ca) (.slice ab bs.length cb) :=
    ⟨by simp only [go_sem, simprocAttr], by simp only [go_sem, simprocAttr], (ha.quiet q0).bound.weaken fun _ e => e.2, (hb.quiet q0).bound.weaken fun _ e => e.2⟩
  generalize (h.push (.cells [.slice aa ws.length ca] .rw)).push (.cells [.slice ab bs.length cb] .rw) = k at q0 t
  have c1 : ¬ (1024 : Int) < ws.length := by omega
  have c2 : ¬ (1024 : Int) < bs.length := by omega
  have c3 : (ws.length : Int) = bs.length := by omega
  have g2 := t.g2
  have g3 := t.g3
  simp only [go_sem, simprocAttr, g2, g3, c1, c2, c3, decide_false, decide_true]
  refine cl_spec (short_ok t hn hl) (fun _ _ _ hc => absurd hc (by decide +kernel)) ?_
  rintro u k1 ⟨l1, q1⟩
  obtain ⟨a1, c1', rfl, _⟩ := l1.len
  simp only [go_sem, simprocAttr]
  exact ⟨_, rfl, (l1.mono q0.1 (Nat.le_refl _) (fun j hj _ _ => ⟨Nat.le_trans q0.1 hj, rfl⟩) (fun _ _ _ => rfl)), q0.trans q1⟩
theorem sSince_ok (a : ShAt own h id m) (g : m.good b) {base x : Int} : Does Try.prog 17 #[.pointer (some ⟨id, 0, none⟩), .int .i64 base, .int .i64 x] h
    (fun u h' => ∃ w, u = .tuple #[w, .int .i64 (m.since base x).2] ∧ Lst rBopO h.next (h.next ≤ ·) h' (m.since base x).1 w ∧ h.quiet h') := by
  have hN := g.c.n1
  have vl : ∀ r, (m.vol r).length = m.n.toNat := m.vol_len
  unfold Sm.since
  refine spec_go mixed Try.func17 rfl Try.results17 (n := Try.f17.ntmps) (by kernel_rfl) (by simp) ?_
  simp only [go_sem, simprocAttr]
  refine cl_spec (sfind_ok a) (fun _ _ _ hc => absurd hc (by decide +kernel)) ?_
  rintro u k ⟨rfl, rfl⟩
  by_cases e0 : (m.find x).2 = 0
  · have fin : ∀ (old : Int), Has m.ts old → Does Try.prog 31 #[.pointer (some ⟨id, 0, none⟩), .int .i64 old] k (fun u h' => Words (k.next ≤ ·) h' (m.vol old) u ∧ k.quiet h') := fun old ho => svolume_ok a g ho
    by_cases eb : base = 0
    · subst eb
      simp only [go_sem, simprocAttr, e0, eq_self, decide_true, decide_false]
      refine cl_spec (fin 0 g.c.has0) (fun _ _ _ hc => absurd hc (by decide +kernel)) ?_
      rintro u k1 ⟨w1, q1⟩
      obtain ⟨a1, c1, rfl⟩ := w1.shape
      simp only [go_sem, simprocAttr]
      refine cl_spec (svolume_ok (a.quiet q1 0) g (find_has g e0)) (fun _ _ _ hc => absurd hc (by decide +kernel)) ?_
      rintro u k2 ⟨w2, q2⟩
      obtain ⟨a2, c2, rfl⟩ := w2.shape
      simp only [go_sem, simprocAttr]
      refine cl_spec (diff_ok (w1.quiet q2) w2 (by rw [vl, vl]) (by rw [vl]; omega)) (fun _ _ _ hc => absurd hc (by decide +kernel)) ?_
      rintro u k3 ⟨w3, rfl, l3, q3⟩
      obtain ⟨a3, c3, rfl, _⟩ := l3.len
      simp only [go_sem, simprocAttr]
      have qq := q1.trans q2
      refine ⟨_, rfl, ?_, qq.trans q3⟩
      have := l3.mono (lo' := k.next) (T' := (k.next ≤ ·)) (h' := k3) qq.1 (Nat.le_refl _) (fun j hj _ _ => ⟨Nat.le_trans qq.1 hj, rfl⟩) (fun _ _ _ => rfl)
      simpa [Sm.old] using this
    · by_cases e1 : (m.find base).2 = 0
      · simp only [go_sem, simprocAttr, e0, eb, decide_true, decide_false]
        refine cl_spec (sfind_ok a) (fun _ _ _ hc => absurd hc (by decide +kernel)) ?_
        rintro u k' ⟨rfl, rfl⟩
        simp only [go_sem, simprocAttr, e1]
        refine cl_spec (fin _ (find_has g e1)) (fun _ _ _ hc => absurd hc (by decide +kernel)) ?_
        rintro u k1 ⟨w1, q1⟩
        obtain ⟨a1, c1, rfl⟩ := w1.shape
        simp only [go_sem, simprocAttr]
        refine cl_spec (svolume_ok (a.quiet q1 0) g (find_has g e0)) (fun _ _ _ hc => absurd hc (by decide +kernel)) ?_
        rintro u k2 ⟨w2, q2⟩
        obtain ⟨a2, c2, rfl⟩ := w2.shape
        simp only [go_sem, simprocAttr]
        refine cl_spec (diff_ok (w1.quiet q2) w2 (by rw [vl, vl]) (by rw [vl]; omega)) (fun _ _ _ hc => absurd hc (by decide +kernel)) ?_
        rintro u k3 ⟨w3, rfl, l3, q3⟩
        obtain ⟨a3, c3, rfl, _⟩ := l3.len
        simp only [go_sem, simprocAttr]
        have qq := q1.trans q2
        refine ⟨_, rfl, ?_, qq.trans q3⟩
        have := l3.mono (lo' := k'.next) (T' := (k'.next ≤ ·)) (h' := k3) qq.1 (Nat.le_refl _) (fun j hj _ _ => ⟨Nat.le_trans qq.1 hj, rfl⟩) (fun _ _ _ => rfl)
        simpa [Sm.old, eb] using this
      · simp only [go_sem, simprocAttr, e0, eb, decide_true, decide_false]
        refine cl_spec (sfind_ok a) (fun _ _ _ hc => absurd hc (by decide +kernel)) ?_
        rintro u k' ⟨rfl, rfl⟩
        simp only [go_sem, simprocAttr, e1]
        exact ⟨_, rfl, .nil _ _ _ _⟩
  · simp only [go_sem, simprocAttr, e0]
    exact ⟨_, rfl, .nil _ _ _ _⟩
end
end Go.Proofs.Ytjkganmkfhciiaa
