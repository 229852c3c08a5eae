/- stream: feeding a reader. -/
import Derived.Test.YtolnacokdjognaaStH
set_option linter.unusedSimpArgs false
set_option linter.unusedVariables false
set_option linter.unnecessarySimpa false
set_option maxRecDepth 100000
namespace Go.Proofs.Ytolnacokdjognaa
open Go.AM
theorem got_may {b : List Nat} {r : Rec} {n : Nat} (h : nextN b = .got r n) : r.may := by
  unfold nextN at h
  split at h
  · cases h
  · split at h
    · cases h
    · split at h
      · cases h
      · split at h
        · cases h
        · rename_i hd
          cases h
          unfold decodeN at hd
          split at hd
          · cases hd
          · split at hd
            · rename_i hc; cases hd; exact hc.2
            · cases hd
theorem may_inI {r : Rec} (h : r.may) : r.inI := by
  obtain ⟨⟨h0, h1, h2, h3, h4, h5, h6⟩, _⟩ := h
  refine ⟨?_, ?_, ?_, ?_, ?_, ?_, ?_⟩ <;> unfold inJ
  · have := h0.1; have := h0.2; omega
  · have := h1.1; have := h1.2; omega
  · have := h2.1; have := h2.2; omega
  · have := h3.1; have := h3.2; omega
  · have := h4.1; have := h4.2; omega
  · have := h5.1; have := h5.2; omega
  · have := h6.1; have := h6.2; omega
section
variable {h k h' : AHeap} {S S' Z : Nat → Prop} {v w : Value} {id : Nat} {b : List Nat} {why : Int}
theorem Feed_ok {p : List Nat} (s : StAt S h id b 0) (hp : Bytes S' h p v) (hn : (b ++ p).length ≤ 1048576) : Does Try.prog 27 #[.pointer (some ⟨id, 0, none⟩), v] h (fun u h' => Fw (· = id) h h' ∧ IsSl rRec (h.next ≤ ·) h' (readA (b ++ p)).1 u ∧ StAt (h.next ≤ ·) h' id (readA (b ++ p)).2.1 (readA (b ++ p)).2.2) := by
  have hlt := s.lt
  obtain ⟨a, c, rfl⟩ := hp.shape
  refine spec_go mixed Try.func27 rfl Try.results27 (n := Try.f27.ntmps) (by kernel_rfl) (by simp) ?_
  simp only [go_sem, simprocAttr]
  refine cl_spec (sok_ok s) (fun _ _ _ hc => absurd hc (by decide +kernel)) ?_
  rintro u k ⟨rfl, rfl⟩
  obtain ⟨v, z, f, hg, hb, hni, hf⟩ := s
  obtain rfl := hf rfl
  obtain ⟨a0, c0, rfl⟩ := hb.shape
  simp only [go_sem, simprocAttr, hg, eq_self, decide_true]
  have q0 : k.quiet (k.push (.cells [.slice a0 b.length c0, .slice a p.length c] .rw)) := .push _ _
  have h2 := two (md := .rw) (h := k) (S := fun _ => True) (hb.weaken fun _ _ => trivial) (hp.weaken fun _ _ => trivial)
  refine cl_spec (Concat_ok h2 (by simp at hn ⊢; omega)) (fun _ _ _ hc => absurd hc (by decide +kernel)) ?_
  rintro u k1 ⟨q1, hu⟩
  have q01 := q0.trans q1
  have hg1 := (q01.2 _ hlt).trans hg
  have hlt1 := AHeap.lt_of_alive k1 (i := id) (by rw [hg1]; simp)
  rw [show [b, p].flatten = b ++ p by simp] at hu
  obtain ⟨au, cu, rfl⟩ := hu.shape
  simp only [go_sem, simprocAttr, hg1]
  have f1 : Fw (· = id) k (k1.set id (.cells [.bool true, .slice au (b ++ p).length cu, .int .i64 z, .int .i64 0, .int .i64 0] .rw)) := Fw.after q01 (.set _)
  have s1 : StAt (fun j => k.next ≤ j ∧ j < k1.next) (k1.set id (.cells [.bool true, .slice au (b ++ p).length cu, .int .i64 z, .int .i64 0, .int .i64 0] .rw)) id (b ++ p) 0 := ⟨_, _, _, AHeap.get_set_self _ _ hlt1, (hu.fr (W := (· = id)) (.set _) (fun j hj _ e => by simp at hj; omega)).mono fun j hj hl => ⟨⟨by simp at hj; omega, by simpa using hl⟩, rfl⟩, by omega, fun _ => rfl⟩
  have n1 : (k1.set id (.cells [.bool true, .slice au (b ++ p).length cu, .int .i64 z, .int .i64 0, .int .i64 0] .rw)).next = k1.next := by simp
  generalize k1.set id (.cells [.bool true, .slice au (b ++ p).length cu, .int .i64 z, .int .i64 0, .int .i64 0] .rw) = k2 at f1 s1 n1
  generalize hbp : b ++ p = B at *
  refine go_loop (fun m ρ k' => ∃ (rs : List Rec) (bi : List Nat) (lv : Value), m = bi.length ∧ bi.length ≤ B.length ∧ rs.length + bi.length ≤ B.length ∧ readA B = (rs ++ (readA bi).1, (readA bi).2) ∧ Fw (· = id) k k' ∧ k2.next ≤ k'.next ∧ StAt (fun j => k.next ≤ j ∧ j < k1.next) k' id bi 0 ∧ Lst rRec k2.next (k2.next ≤ ·) k' rs lv ∧ ρ 0 = .pointer (some ⟨id, 0, none⟩) ∧ ρ 5 = lv) B.length ⟨[], B, _, rfl, by omega, by simp, by simp, f1, by omega, s1, .nil _ _ _ _, by simp only [go_sem, simprocAttr]⟩ ?_
  rintro m ρ k' ⟨rs, bi, lv, rfl, hbl, hrl, hrd, f, hnx, st, hl, r0, r5⟩
  simp only [go_sem, simprocAttr, r0, r5]
  refine cl_spec (next_ok st (fun j hj => by omega) (by omega)) (fun _ _ _ hc => absurd hc (by decide +kernel)) ?_
  rintro u k3 ⟨f3, hp3⟩
  have f13 : Fw (· = id) k k3 := f.trans f3 (fun _ _ e => e) (fun _ _ e => e)
  have hk2n : k.next ≤ k2.next := f1.1
  have hl3 : Lst rRec k2.next (k2.next ≤ ·) k3 rs lv := Lst.fr hl f3 (fun j hj e => by have : k2.next ≤ j := hj.elim (fun e => e) (fun e => e); omega)
  obtain ⟨al, nl, cl', rfl⟩ : ∃ ax nx cx, lv = .slice ax nx cx := by obtain ⟨ax, cx, e, _⟩ := hl.len; exact ⟨ax, _, cx, e⟩
  rw [readA_eq bi] at hrd
  cases hnb : nextN bi with
  | wait =>
    rw [hnb] at hp3 hrd
    obtain ⟨rfl, st3⟩ := hp3
    simp only [List.append_nil] at hrd
    simp only [go_sem, simprocAttr, rc_len, rc_one, rc_take, rc_put, r0, r5]
    rw [hrd]
    exact ⟨f13.then (.push _ _), (hl3.quiet (.push _ _)).isSl (fun _ e _ => Nat.le_trans hk2n e) (fun _ e => Nat.le_trans hk2n e), (st3.quiet (.push _ _)).mono' (fun j hj => hj.1) (by omega)⟩
  | bad e =>
    rw [hnb] at hp3 hrd
    obtain ⟨rfl, st3⟩ := hp3
    simp only [List.append_nil] at hrd
    simp only [go_sem, simprocAttr, rc_len, rc_one, rc_take, rc_put, r0, r5]
    rw [hrd]
    exact ⟨f13.then (.push _ _), (hl3.quiet (.push _ _)).isSl (fun _ e _ => Nat.le_trans hk2n e) (fun _ e => Nat.le_trans hk2n e), (st3.quiet (.push _ _)).mono' (fun j hj => hj.1) (by omega)⟩
  | got r n =>
    rw [hnb] at hp3 hrd
    obtain ⟨rw_, rfl, hrw, st3⟩ := hp3
    have hgn := got_n hnb
    have hmay := got_may hnb
    obtain ⟨ar, cr, rfl⟩ := hrw.shape
    have q4 : k3.quiet ((k3.push (.cells (r.cs (.slice ar r.data.length cr)) .rw)).push (.cells (r.cs (.slice ar r.data.length cr)) .rw)) := (AHeap.quiet.push _ _).push' _
    obtain ⟨v', k5, e, hl5, f5, _⟩ := (hl3.quiet q4).app1 (y := r) (cs := r.cs (.slice ar r.data.length cr)) (bytes := 80) 8 rfl (rRec_iff.2 ⟨_, rfl, may_inI hmay, (hrw.quiet q4).mono fun j hj _ => ⟨⟨by have := f.1; omega, fun e => by have := (hl.blk_ge e).2; omega⟩, rfl⟩⟩) (by omega) (by omega) (by have := f3.1; have := q4.1; omega)
    obtain ⟨a5, n5, c5, rfl⟩ : ∃ ax nx cx, v' = .slice ax nx cx := by obtain ⟨ax, cx, e, _⟩ := hl5.len; exact ⟨ax, _, cx, e⟩
    simp only [go_sem, simprocAttr, rc_len, rc_one, rc_take, rc_put, r0, r5, e]
    have f35 : Fw (fun j => blk (Value.slice al nl cl') = some j) k3 k5 := Fw.after q4 f5
    refine Hold.mk ⟨(bi.drop n).length, by rw [List.length_drop]; omega, rs ++ [r], bi.drop n, .slice a5 n5 c5, rfl, by rw [List.length_drop]; omega, by rw [List.length_drop, List.length_append]; simp; omega, by rw [hrd]; simp, f13.trans f35 (fun _ _ e => e) (fun j hj e => by have := (hl.blk_ge e).1; omega), by have := f3.1; have := f35.1; omega, ?_, hl5, by simp only [go_sem, simprocAttr, r0]⟩
    obtain ⟨v7, z7, f7, hg7, hb7, hni7, hf7⟩ := st3
    exact ⟨v7, z7, f7, (f35.2 _ (AHeap.lt_of_alive k3 (by rw [hg7]; simp)) (fun e => by have := (hl.blk_ge e).1; omega)).trans hg7, hb7.fr f35 (fun j hj _ e => by have := (hl.blk_ge e).1; omega), hni7, hf7⟩
end
end Go.Proofs.Ytolnacokdjognaa
