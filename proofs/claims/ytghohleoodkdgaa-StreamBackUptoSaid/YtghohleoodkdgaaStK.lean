/- stream: alive, and what is built. -/
import Derived.Test.YtghohleoodkdgaaStJ
set_option linter.unusedSimpArgs false
set_option linter.unusedVariables false
set_option linter.unnecessarySimpa false
set_option maxRecDepth 100000
namespace Go.Proofs.Ytghohleoodkdgaa
open Go.AM
def aHd : Rec := ⟨1, 0, 1, 0, 0, 0, 9, []⟩
def aOps : List Bop := [⟨1, 2, 0, [5]⟩]
def aL : List Rec := buildL aHd aOps
theorem aE : bldE aHd aOps = 0 := by decide +kernel
theorem aC : checkN aL = 0 := by decide +kernel
theorem aMay : ∀ r ∈ aL, r.may := by decide +kernel
theorem aDat : ∀ r ∈ aL, ∀ x ∈ r.data, x < 18446744073709551616 := by decide +kernel
theorem aOk : okL aL := fun r hr => ⟨aMay r hr, aDat r hr⟩
theorem aLen : (encN aL).length = 236 := by
  show (encN [aHd, recO ⟨1, 2, 0, [5]⟩, tailN 1]).length = 236
  rw [encN_cons, encN_cons, encN_cons, List.length_append, List.length_append, List.length_append, recB_len, recB_len, recB_len]
  rfl
theorem encE_ok {l : List Rec} (h1 : ∀ r ∈ l, r.may) (h2 : (encN l).length ≤ 65536) : encE l = .ok (encN l) := by
  unfold encE
  rw [if_neg (by rintro ⟨r, hr, e⟩; exact e (h1 r hr)), if_neg (by omega)]
theorem encE_inv {l : List Rec} {b : List Nat} (h : encE l = .ok b) : (∀ r ∈ l, r.may) ∧ (encN l).length ≤ 65536 ∧ b = encN l := by
  unfold encE at h
  split at h
  · cases h
  · rename_i h1
    split at h
    · cases h
    · rename_i h2
      cases h
      exact ⟨fun r hr => Classical.byContradiction fun e => h1 ⟨r, hr, e⟩, by omega, rfl⟩
theorem encE_err {l : List Rec} {e : Int} (h : encE l = .error e) : e ≠ 0 := by
  unfold encE at h
  split at h
  · cases h; decide
  · split at h
    · cases h; decide
    · cases h
theorem read_all {l : List Rec} (ho : okL l) : readA (encN l) = (l, [], 0) := by
  have := readA_app ho []
  rw [List.append_nil, show readA [] = ([], [], 0) from readA_wait rfl, List.append_nil] at this
  exact this
section
variable {h k h' : AHeap} {S S' Z : Nat → Prop} {v w : Value} {id : Nat}
theorem salive_ok : Does Try.prog 9 #[] h (fun u h' => u = .bool true ∧ h.quiet h') := by
  refine spec_go mixed Try.func9 rfl Try.results9 (n := Try.f9.ntmps) (by kernel_rfl) (by simp) ?_
  simp only [go_sem, simprocAttr]
  have q0 : h.quiet ((h.push (.cells [.int .u64 5] .rw)).push (.cells [.int .i64 1, .int .i64 2, .int .i64 0, .slice (some ⟨h.next, 0, none⟩) 1 1] .rw)) := (AHeap.quiet.push _ _).push' _
  have hw : IsSl rBop (· < ((h.push (.cells [.int .u64 5] .rw)).push (.cells [.int .i64 1, .int .i64 2, .int .i64 0, .slice (some ⟨h.next, 0, none⟩) 1 1] .rw)).next) ((h.push (.cells [.int .u64 5] .rw)).push (.cells [.int .i64 1, .int .i64 2, .int .i64 0, .slice (some ⟨h.next, 0, none⟩) 1 1] .rw)) aOps (.slice (some ⟨h.next + 1, 0, none⟩) 1 1) := by
    have h5 : Words (· = h.next) (h.push (.cells [.int .u64 5] .rw)) [5] (.slice (some ⟨h.next, 0, none⟩) 1 1) := IsSl.fresh1 (x := 5) (by rw [u64_max]; decide)
    refine .fresh (css := [[.int .i64 1, .int .i64 2, .int .i64 0, .slice (some ⟨h.next, 0, none⟩) 1 1]]) (.cons (rBop_iff.2 ⟨_, rfl, by unfold Bop.inI inJ; decide, (h5.quiet (.push _ _)).weaken fun j hj => by subst hj; simp; omega⟩) .nil) rfl (by decide) (by simp) (md := .rw) (c := [.int .i64 1, .int .i64 2, .int .i64 0, .slice (some ⟨h.next, 0, none⟩) 1 1]) ?_ rfl
    have := AHeap.get_push_self (h.push (.cells [.int .u64 5] .rw)) (.cells [.int .i64 1, .int .i64 2, .int .i64 0, .slice (some ⟨h.next, 0, none⟩) 1 1] .rw)
    simpa using this
  generalize (h.push (.cells [.int .u64 5] .rw)).push (.cells [.int .i64 1, .int .i64 2, .int .i64 0, .slice (some ⟨h.next, 0, none⟩) 1 1] .rw) = k0 at q0 hw
  refine cl_spec (Build_ok (hd := aHd) (v := .slice none 0 0) (by unfold Rec.inI inJ; decide) (.nil _ _ _) hw (by decide) (by decide) (by decide)) (fun _ _ _ hc => absurd hc (by decide +kernel)) ?_
  rintro u k1 ⟨q1, x, rfl, hx⟩
  rw [aE, if_pos rfl] at hx
  rw [aE]
  change IsSl rRec (fun _ => True) k1 aL x at hx
  obtain ⟨ax, nx, cx, rfl, hnx⟩ : ∃ ax nx cx, x = .slice ax nx cx ∧ nx = 3 := by obtain ⟨ax, cx, e⟩ := hx.shape; exact ⟨ax, _, cx, e, rfl⟩
  subst hnx
  simp only [go_sem, simprocAttr]
  refine cl_spec (Encode_ok hx) (fun _ _ _ hc => absurd hc (by decide +kernel)) ?_
  rintro u k2 ⟨q2, hp⟩
  rw [encE_ok aMay (by rw [aLen]; decide)] at hp
  obtain ⟨bw, rfl, hbl⟩ := hp
  have hb := hbl.isSl (S := fun _ => True) (fun _ e _ => e.elim) (fun _ _ => trivial)
  obtain ⟨ab, nb, cb, rfl⟩ : ∃ ax nx cx, bw = .slice ax nx cx := by obtain ⟨ax, cx, e⟩ := hb.shape; exact ⟨ax, _, cx, e⟩
  simp only [go_sem, simprocAttr]
  refine cl_spec snew_ok (fun _ _ _ hc => absurd hc (by decide +kernel)) ?_
  rintro u k3 ⟨rfl, q3, s3⟩
  simp only [go_sem, simprocAttr, eq_self, decide_true, decide_false]
  have hk3 := s3.lt
  refine cl_spec (Feed_ok s3 (hb.quiet q3) (by rw [List.nil_append, aLen]; decide)) (fun _ _ _ hc => absurd hc (by decide +kernel)) ?_
  rintro u k4 ⟨f4, hk, s4⟩
  rw [List.nil_append, read_all aOk] at hk s4
  have q4 : k2.quiet k4 := Fw.behind q3 f4 (fun j e => by omega)
  obtain ⟨ak, nk, ck, rfl⟩ : ∃ ax nx cx, u = .slice ax nx cx := by obtain ⟨ax, cx, e⟩ := hk.shape; exact ⟨ax, _, cx, e⟩
  simp only [go_sem, simprocAttr]
  refine cl_spec (Same_ok hk (hx.quiet (q2.trans q4))) (fun u h' hp _ => hp.2) ?_
  rintro u k5 ⟨rfl, q5⟩
  simp only [go_sem, simprocAttr, eq_self, decide_true]
  refine cl_spec (sWaits_ok (s4.quiet q5)) (fun u h' hp _ => by rw [hp.2]; exact .refl _) ?_
  rintro u k6 ⟨rfl, rfl⟩
  simp only [go_sem, simprocAttr, eq_self, decide_true]
  refine cl_spec (sFault_ok (s4.quiet q5)) (fun u h' hp _ => hp.2) ?_
  rintro u k7 ⟨rfl, q7⟩
  simp only [go_sem, simprocAttr, eq_self, decide_true]
  refine cl_spec (Check_ok (hk.quiet (q5.trans q7)) (by decide +kernel)) (fun u h' hp _ => hp.1) ?_
  rintro u k8 ⟨q8, rfl⟩
  rw [aC]
  simp only [go_sem, simprocAttr, eq_self, decide_true]
  exact ((((q0.trans q1).trans q2).trans q4).trans (q5.trans q7)).trans q8
end
end Go.Proofs.Ytghohleoodkdgaa
