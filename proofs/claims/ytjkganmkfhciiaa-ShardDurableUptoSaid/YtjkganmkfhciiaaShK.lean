/- shard: it is alive. -/
import Derived.Test.YtjkganmkfhciiaaShJ
set_option linter.unusedSimpArgs false
set_option linter.unusedVariables false
set_option linter.unnecessarySimpa false
set_option maxRecDepth 100000
namespace Go.Proofs.Ytjkganmkfhciiaa
open Go.AM

def op5 : Bop := ⟨1, 1, 0, [5]⟩
def op6 : Bop := ⟨1, 1, 0, [6]⟩
def x5 : Ext := ⟨1, 1, 0, 0⟩
def x6 : Ext := ⟨1, 1, 1, 1⟩
def sm1 (n : Int) : Sm := ⟨n, [.nil, Tput .nil x5], [5], 0, 1, 0, [op5], [], false⟩
def sm2 (n : Int) : Sm := ⟨n, [.nil, Tput .nil x5], [5], 1, 1, 1, [], [(1, 1)], false⟩
def sm3 (n : Int) : Sm := ⟨n, [.nil, Tput .nil x5, Tput (Tput .nil x5) x6], [5, 6], 1, 2, 1, [op6], [(1, 1)], false⟩
def sm4 (n : Int) : Sm := ⟨n, [.nil, Tput .nil x5, Tput (Tput .nil x5) x6], [5, 6], 1, 1, 1, [], [(1, 1)], false⟩
theorem do5 {n : Int} (h : n = 3 ∨ n = 4) : (Sm.new n).doOp op5 = (0, sm1 n) := by rcases h with rfl | rfl <;> rfl
theorem snap1 {n : Int} (h : n = 3 ∨ n = 4) : (sm1 n).snap 1 = (0, sm2 n) := by rcases h with rfl | rfl <;> rfl
theorem do6 : (sm2 4).doOp op6 = (0, sm3 4) := by rfl
theorem crash4 : (sm3 4).crash [] = sm4 4 := by rfl
theorem good1 {n : Int} (h : n = 3 ∨ n = 4) : (sm1 n).good 1 := by
  have := (Sm.new_good (n := n) (by omega) (by omega)).doOp (by omega) op5
  rwa [do5 h] at this
theorem good2 {n : Int} (h : n = 3 ∨ n = 4) : (sm2 n).good 2 := by
  have := (good1 h).snap (x := 1) (by unfold inI; omega)
  rwa [snap1 h] at this
theorem good3 : (sm3 4).good 3 := by
  have := (good2 (n := 4) (.inr rfl)).doOp (by omega) op6
  rwa [do6] at this
theorem good4 : (sm4 4).good 3 := by
  have := good3.crash (by omega) []
  rwa [crash4] at this
theorem vol_eq {m : Sm} {b : Nat} (g : m.good b) {r : Int} (h : Has m.ts r) : m.vol r = viewL m.us m.n.toNat (m.ts.getD r.toNat .nil).list := by unfold Sm.vol; rw [g.c.part h]
theorem list5 : (Tput .nil x5).list = [x5] := by
  have := (Tput_good GT.nil (x := x5) (by unfold Ext.ok x5; decide)).2
  rw [this]
  decide
theorem vol4 : (sm4 4).vol 1 = [0, 5, 0, 0] := by
  rw [vol_eq good4 (by unfold Has sm4; decide)]
  show viewL [5, 6] 4 (Tput .nil x5).list = _
  rw [list5]
  decide
theorem vol40 : (sm4 4).vol 0 = [0, 0, 0, 0] := by
  rw [vol_eq good4 (by unfold Has sm4; decide)]
  rfl
theorem find4 : (sm4 4).find 1 = (1, 0) := by rfl
theorem since4 : (sm4 4).since 0 1 = ([op5], 0) := by
  unfold Sm.since Sm.old
  rw [find4]
  simp only [ne_eq, not_true_eq_false, if_false, false_and, if_true]
  rw [vol4, vol40]
  decide
theorem Ks.quiet0 {T : Nat → Prop} {own own' : Nat → Nat} {h h' : AHeap} (k : Ks T own h own' h') (h0 : ∀ j, ¬ T (own j)) : h.quiet h' := ⟨k.1, fun j hj => (k.2 j hj).2 (h0 j)⟩
section
variable {h : AHeap}
theorem words1 {h : AHeap} {x : Nat} (hx : (x : Int) ≤ IntKind.u64.max) {j : Nat} (hg : h.get j = .cells [.int .u64 (x : Nat)] .rw) : Words (· = j) h [x] (.slice (some ⟨j, 0, none⟩) 1 1) :=
  .fresh (css := [[.int .u64 (x : Nat)]]) (.cons ⟨rfl, hx⟩ .nil) rfl (by decide) rfl hg rfl
theorem alive_ok : Does Try.prog 9 #[] h (fun u h' => u = .bool true ∧ h.quiet h') := by
  refine spec_go mixed Try.func9 rfl Try.results9 (n := Try.f9.ntmps) (by kernel_rfl) (by simp) ?_
  simp only [go_sem, simprocAttr]
  refine cl_spec (snew_ok (own := fun _ => 0) (n := 4) (by unfold inI; omega)) (fun _ _ _ hc => absurd hc (by decide +kernel)) ?_
  rintro u k ⟨q, ⟨_, _, id, ow, rfl, hid, a, k0⟩ | ⟨h4, _⟩⟩
  rotate_left
  · exact absurd (by omega) h4
  simp only [go_sem, simprocAttr]
  -- a write
  have qa : k.quiet (k.push (.cells [.int .u64 ((5 : Nat) : Int)] .rw)) := .push _ _
  have w5 := words1 (x := 5) (by decide) (AHeap.get_push_self k (.cells [.int .u64 ((5 : Nat) : Int)] .rw))
  refine cl_spec (sDo_ok (o := op5) (a.quiet qa 0) (Sm.new_good (n := 4) (by omega) (by omega)) (by omega) (by unfold Bop.inI inJ op5; decide) w5) (fun _ _ _ hc => absurd hc (by decide +kernel)) ?_
  rw [do5 (.inr rfl)]
  rintro u k1 ⟨rfl, ow1, a1, k01⟩
  have kk1 := (k0.weaken (T' := shT) fun t e => e.elim).trans ((Ks.quiet (T := shT) qa 0).trans k01)
  simp only [go_sem, simprocAttr]
  refine cl_spec (sSnap_ok a1 (good1 (.inr rfl)) (by omega) (x := 1) (by unfold inI; omega)) (fun _ _ _ hc => absurd hc (by decide +kernel)) ?_
  rw [snap1 (.inr rfl)]
  rintro u k2 ⟨rfl, ow2, a2, k12⟩
  have kk2 := kk1.trans k12
  simp only [go_sem, simprocAttr]
  have qb : k2.quiet (k2.push (.cells [.int .u64 ((6 : Nat) : Int)] .rw)) := .push _ _
  have w6 := words1 (x := 6) (by decide) (AHeap.get_push_self k2 (.cells [.int .u64 ((6 : Nat) : Int)] .rw))
  refine cl_spec (sDo_ok (o := op6) (a2.quiet qb 0) (good2 (.inr rfl)) (by omega) (by unfold Bop.inI inJ op6; decide) w6) (fun _ _ _ hc => absurd hc (by decide +kernel)) ?_
  rw [do6]
  rintro u k3 ⟨rfl, ow3, a3, k23⟩
  have kk3 := kk2.trans ((Ks.quiet (T := shT) qb 0).trans k23)
  simp only [go_sem, simprocAttr]
  refine cl_spec (sCrash_ok (S := fun _ => False) a3 good3 (by omega) (ks := []) (.nil _ _ _) (fun _ e => e.elim)) (fun _ _ _ hc => absurd hc (by decide +kernel)) ?_
  rw [crash4]
  rintro u k4 ⟨rfl, ow4, a4, k34⟩
  have kk4 := kk3.trans k34
  simp only [go_sem, simprocAttr]
  refine cl_spec (sRead_ok a4 good4 (off := 1) (n := 1) (by unfold inJ; omega) (by unfold inJ; omega)) (fun _ _ _ hc => absurd hc (by decide +kernel)) ?_
  rw [show (sm4 4).now = 1 from rfl, vol4, show readL [0, 5, 0, 0] 1 1 = ([5], 0) from rfl]
  rintro u k5 ⟨v5, rfl, wr5, q5⟩
  obtain ⟨a5, c5, rfl⟩ := wr5.shape
  simp only [go_sem, simprocAttr]
  refine cl_spec (sLook_ok (a4.quiet q5 0) good4 (x := 1) (off := 0) (n := 4) (by unfold inJ; omega) (by unfold inJ; omega)) (fun _ _ _ hc => absurd hc (by decide +kernel)) ?_
  rw [find4, vol4, show readL [0, 5, 0, 0] 0 4 = ([0, 5, 0, 0], 0) from rfl]
  simp only [ne_eq, not_true_eq_false, if_false]
  rintro u k6 ⟨v6, rfl, wr6, q6⟩
  obtain ⟨a6, c6, rfl⟩ := wr6.shape
  simp only [go_sem, simprocAttr]
  refine cl_spec (sSince_ok (a4.quiet (q5.trans q6) 0) good4 (base := 0) (x := 1)) (fun _ _ _ hc => absurd hc (by decide +kernel)) ?_
  rw [since4]
  rintro u k7 ⟨v7, rfl, l7, q7⟩
  obtain ⟨a7, c7, rfl, _⟩ := l7.len
  have kk7 : h.quiet k7 := (kk4.quiet0 (fun j => by unfold shT; omega)).trans ((q5.trans q6).trans q7)
  simp only [go_sem, simprocAttr]
  have qc : k7.quiet (k7.push (.cells [.int .u64 ((5 : Nat) : Int)] .rw)) := .push _ _
  have wc := words1 (x := 5) (by decide) (AHeap.get_push_self k7 (.cells [.int .u64 ((5 : Nat) : Int)] .rw))
  refine cl_spec (Words_ok (wr5.quiet ((q6.trans q7).trans qc)) wc) (fun _ _ _ hc => absurd hc (by decide +kernel)) ?_
  rintro u k8 ⟨rfl, rfl⟩
  simp only [go_sem, simprocAttr]
  have qd : (k7.push (.cells [.int .u64 ((5 : Nat) : Int)] .rw)).quiet ((k7.push (.cells [.int .u64 ((5 : Nat) : Int)] .rw)).push (.cells (wv [0, 5, 0, 0]) .rw)) := .push _ _
  have wd : Words (fun _ => True) ((k7.push (.cells [.int .u64 ((5 : Nat) : Int)] .rw)).push (.cells (wv [0, 5, 0, 0]) .rw)) [0, 5, 0, 0] (.slice (some ⟨k7.next + 1, 0, none⟩) 4 4) := wv_words rfl (by decide) (by decide) (by simp only [go_sem, simprocAttr]) trivial
  refine cl_spec (Words_ok (wr6.quiet (q7.trans (qc.trans qd))) wd) (fun _ _ _ hc => absurd hc (by decide +kernel)) ?_
  rintro u k8 ⟨rfl, rfl⟩
  simp only [go_sem, simprocAttr]
  exact kk7.trans (qc.trans qd)
end
end Go.Proofs.Ytjkganmkfhciiaa
