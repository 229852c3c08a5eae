/- stream: Build and Ops go back to one another; what is encoded is read. -/
import Derived.Test.YtghohleoodkdgaaStK
set_option linter.unusedSimpArgs false
set_option linter.unusedVariables false
set_option linter.unnecessarySimpa false
set_option maxRecDepth 100000
namespace Go.Proofs.Ytghohleoodkdgaa
open Go.AM
theorem check_may {l : List Rec} (h : checkN l = 0) : ∀ r ∈ l, r.may := by
  unfold checkN at h
  split at h
  · cases h
  · rename_i c
    exact fun r hr => Classical.byContradiction fun e => c ⟨r, hr, e⟩
theorem bld_check {hd : Rec} {ops : List Bop} (h : bldE hd ops = 0) : checkN (buildL hd ops) = 0 := by
  unfold bldE at h
  split at h
  · cases h
  · exact h
theorem mid_build (hd : Rec) (ops : List Bop) : midR (buildL hd ops) = ops.map recO := by
  unfold midR buildL
  simp only [List.length_cons, List.length_append, List.length_map, List.length_nil, List.drop_succ_cons, List.drop_zero]
  rw [show ops.length + (0 + 1) + 1 - 1 - 1 = ops.length by omega, List.take_append_of_le_length (by simp), List.take_of_length_le (by simp)]
theorem ops_back {hd : Rec} {ops : List Bop} (h : bldE hd ops = 0) : (midR (buildL hd ops)).map Rec.op = ops := by
  have hm := check_may (bld_check h)
  rw [mid_build, List.map_map]
  have : ∀ o ∈ ops, (Rec.op ∘ recO) o = o := fun o ho => by
    have hmay := hm (recO o) (by unfold buildL; simp; exact .inr (.inl ⟨o, ho, rfl⟩))
    have hk : o.kd = 1 ∨ o.kd = 2 := by
      by_cases k1 : o.kd = 1
      · exact .inl k1
      · by_cases k2 : o.kd = 2
        · exact .inr k2
        · exfalso
          have e : (recO o).kd = 0 := by unfold recO; simp only; rw [if_neg k1, if_neg k2]
          have := hmay.2
          unfold Rec.form at this
          omega
    show (recO o).op = o
    obtain ⟨kd, off, ln, data⟩ := o
    rcases hk with hk | hk
    · obtain rfl : kd = 1 := hk
      rfl
    · obtain rfl : kd = 2 := hk
      rfl
  conv => rhs; rw [← List.map_id ops]
  exact List.map_congr_left this
section
variable {h k h' : AHeap} {S S' Z : Nat → Prop} {v w : Value} {id : Nat}
theorem back_law {hd : Rec} {ops : List Bop} (hi : hd.inI) (hv : Words (· < h.next) h hd.data v) (hs : IsSl rBop (· < h.next) h ops w) (hn : ops.length ≤ 1048576) (hb : ∀ o ∈ ops, o.data.length ≤ 1048576) (hb0 : hd.data.length ≤ 1048576) :
    Does Try.prog 6 #[.agg (hd.cs v).toArray, w] h (fun u _ => u = .bool true) := by
  obtain ⟨a, c, rfl⟩ := hv.shape
  obtain ⟨a2, c2, rfl⟩ := hs.shape
  refine spec_go mixed Try.func6 rfl Try.results6 (n := Try.f6.ntmps) (by kernel_rfl) (by simp) ?_
  simp only [go_sem, simprocAttr, rc_len, rc_one, rc_take, rc_put]
  have q0 : h.quiet (h.push (.cells (hd.cs (.slice a hd.data.length c)) .rw)) := .push _ _
  have g0 : (h.push (.cells (hd.cs (.slice a hd.data.length c)) .rw)).get h.next = .cells (hd.cs (.slice a hd.data.length c)) .rw := by simp
  have n0 : (h.push (.cells (hd.cs (.slice a hd.data.length c)) .rw)).next = h.next + 1 := by simp
  generalize h.push (.cells (hd.cs (.slice a hd.data.length c)) .rw) = k0 at q0 g0 n0
  have hs0 := (hs.weaken (S' := (· < k0.next)) (fun j hj => by omega)).quiet q0
  refine cl_spec (Build_ok hi ((hv.weaken (S' := (· < k0.next)) (fun j hj => by omega)).quiet q0) hs0 hn hb hb0) (fun u h' hp _ => hp.1) ?_
  rintro u k1 ⟨q1, x, rfl, hx⟩
  have g1 := (q1.2 _ (by omega)).trans g0
  by_cases he : bldE hd ops = 0
  · rw [if_pos he] at hx
    rw [he]
    have hbl : (buildL hd ops).length = ops.length + 2 := by unfold buildL; simp
    have hbd : ∀ r ∈ buildL hd ops, r.data.length ≤ 1048576 := fun r hr => by
      unfold buildL at hr
      rcases List.mem_cons.1 hr with rfl | hr
      · exact hb0
      · rcases List.mem_append.1 hr with hr | hr
        · obtain ⟨o, ho, rfl⟩ := List.mem_map.1 hr
          exact hb o ho
        · obtain rfl : r = tailN ops.length := by simpa using hr
          show (0 : Nat) ≤ _; omega
    have hxo := hx
    obtain ⟨ax, nx, cx, rfl, hnx⟩ : ∃ ax nx cx, x = .slice ax nx cx ∧ nx = ops.length + 2 := by obtain ⟨ax, cx, e⟩ := hx.shape; exact ⟨ax, _, cx, e, hbl⟩
    simp only [go_sem, simprocAttr, eq_self, decide_true, decide_false]
    refine cl_spec (Ops_ok hx (by omega) hbd) (fun _ _ _ hc => absurd hc (by decide +kernel)) ?_
    rintro u k2 ⟨q2, y, rfl, hy⟩
    rw [bld_check he, if_pos rfl, ops_back he] at hy
    rw [bld_check he]
    have g2 := (q2.2 _ (AHeap.lt_of_alive k1 (by rw [g1]; simp))).trans g1
    obtain ⟨b, off, sp, cc, md, r, lv, hA, _, hg, hri, hlv, _, hle, hdt⟩ := IsSl.atR (hx.quiet q2) (i := 0) (by omega)
    obtain rfl : r = hd := by
      have : (buildL hd ops)[0]? = some hd := rfl
      rw [this] at hri; cases hri; rfl
    obtain ⟨al, cl', rfl⟩ := hlv.shape
    obtain ⟨ay, ny, cy, rfl⟩ : ∃ ax nx cx, y = .slice ax nx cx := by obtain ⟨ax, cx, e⟩ := hy.shape; exact ⟨ax, _, cx, e⟩
    have hll := hs.len
    have e2 : IntKind.i64.wrap ((ops.length : Int) + 2) = ((ops.length + 2 : Nat) : Int) := by rw [wi64] <;> omega
    simp only [go_sem, simprocAttr, eq_self, decide_true, decide_false]
    refine cl_spec (SameO_ok hy (hs0.quiet (q1.trans q2))) (fun u h' hp _ => hp.2) ?_
    rintro u k3 ⟨rfl, q3⟩
    have g3 := (q3.2 _ (AHeap.lt_of_alive k2 (by rw [g2]; simp))).trans g2
    have hg3 := (q3.2 _ (AHeap.lt_of_alive k2 (by rw [hg]; simp))).trans hg
    have h0n : (0 : Int) < (nx : Int) := by omega
    have h0m : 0 < nx := by omega
    simp only [Nat.zero_mul, Nat.add_zero] at hle hdt
    simp only [go_sem, simprocAttr, eq_self, decide_true, g3, hg3, hA, h0n, h0m, hle, hdt, rc_len, rc_one, rc_take, rc_put]
    refine cl_spec (One_ok (hlv.quiet q3) ((hv.quiet q0).quiet ((q1.trans q2).trans q3))) (fun u h' hp _ => hp.2) ?_
    rintro u k4 ⟨rfl, q4⟩
    simp only [go_sem, simprocAttr, eq_self, decide_true, e2, hnx]
    refine cl_spec salive_ok (fun u h' hp _ => hp.2) ?_
    rintro u k5 ⟨rfl, q5⟩
    simp only [go_sem, simprocAttr, eq_self, decide_true]
  · rw [if_neg he] at hx
    obtain ⟨ax, nx, cx, rfl, hnx⟩ : ∃ ax nx cx, x = .slice ax nx cx ∧ nx = 0 := by obtain ⟨ax, cx, e⟩ := hx.shape; exact ⟨ax, _, cx, e, rfl⟩
    subst hnx
    simp only [go_sem, simprocAttr, he, eq_self, decide_true, decide_false]
    refine cl_spec salive_ok (fun u h' hp _ => hp.2) ?_
    rintro u k5 ⟨rfl, q5⟩
    simp only [go_sem, simprocAttr, eq_self, decide_true]
end
end Go.Proofs.Ytghohleoodkdgaa
