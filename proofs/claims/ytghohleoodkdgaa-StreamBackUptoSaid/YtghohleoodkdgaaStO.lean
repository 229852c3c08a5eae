/- stream: readers that nobody made; what may be written over. -/
import Derived.Test.YtghohleoodkdgaaStN
set_option linter.unusedSimpArgs false
set_option linter.unusedVariables false
set_option linter.unnecessarySimpa false
set_option maxRecDepth 100000
namespace Go.Proofs.Ytghohleoodkdgaa
open Go.AM
def NoS (h : AHeap) (p : Option Addr) : Prop := p = none ∨ ∃ id, p = some ⟨id, 0, none⟩ ∧ h.get id = .cells [.bool false, .slice none 0 0, .int .i64 0, .int .i64 0, .int .i64 0] .rw
theorem u8_exS (z : Int) : ∃ y : Nat, IntKind.u8.wrap z = (y : Nat) ∧ (y : Int) ≤ IntKind.u8.max := ⟨(z % 256).toNat, by rw [wrap_u8]; omega, by rw [u8_max]; omega⟩
theorem u64_exS (z : Int) : ∃ y : Nat, IntKind.u64.wrap z = (y : Nat) ∧ (y : Int) ≤ IntKind.u64.max := ⟨(z % 18446744073709551616).toNat, by rw [wrap_u64]; omega, by rw [u64_max]; omega⟩
section
variable {h k h' : AHeap} {S S' Z : Nat → Prop} {v w : Value} {id : Nat} {p : Option Addr}
theorem NoS.quiet {h' : AHeap} (n : NoS h p) (q : h.quiet h') : NoS h' p := by
  rcases n with rfl | ⟨id, rfl, hg⟩
  · exact .inl rfl
  · exact .inr ⟨id, rfl, (q.2 _ (AHeap.lt_of_alive h (by rw [hg]; simp))).trans hg⟩
theorem nsok_ok (n : NoS h p) : Does Try.prog 28 #[.pointer p] h (fun u h' => u = .bool false ∧ h' = h) := by
  refine spec_go mixed Try.func28 rfl Try.results28 (n := Try.f28.ntmps) (by kernel_rfl) (by simp) ?_
  rcases n with rfl | ⟨id, rfl, hg⟩
  · simp only [go_sem, simprocAttr]
  · simp only [go_sem, simprocAttr, hg]
theorem nsFeed_ok (n : NoS h p) : Does Try.prog 10 #[.pointer p, v] h (fun u h' => u = .slice none 0 0 ∧ h' = h) := by
  refine spec_go mixed Try.func10 rfl Try.results10 (n := Try.f10.ntmps) (by kernel_rfl) (by simp) ?_
  simp only [go_sem, simprocAttr]
  refine cl_spec (nsok_ok n) (fun _ _ _ hc => absurd hc (by decide +kernel)) ?_
  rintro u k ⟨rfl, rfl⟩
  simp only [go_sem, simprocAttr]
theorem nsWaits_ok (n : NoS h p) : Does Try.prog 12 #[.pointer p] h (fun u h' => u = .int .i64 0 ∧ h' = h) := by
  refine spec_go mixed Try.func12 rfl Try.results12 (n := Try.f12.ntmps) (by kernel_rfl) (by simp) ?_
  simp only [go_sem, simprocAttr]
  refine cl_spec (nsok_ok n) (fun _ _ _ hc => absurd hc (by decide +kernel)) ?_
  rintro u k ⟨rfl, rfl⟩
  simp only [go_sem, simprocAttr]
theorem nsFault_ok (n : NoS h p) : Does Try.prog 13 #[.pointer p] h (fun u h' => u = .agg #[.int .i64 0, .int .i64 0] ∧ h.quiet h') := by
  refine spec_go mixed Try.func13 rfl Try.results13 (n := Try.f13.ntmps) (by kernel_rfl) (by simp) ?_
  simp only [go_sem, simprocAttr]
  refine cl_spec (nsok_ok (n.quiet (.push _ _))) (fun _ _ _ hc => absurd hc (by decide +kernel)) ?_
  rintro u k ⟨rfl, rfl⟩
  simp only [go_sem, simprocAttr]
theorem nobody_law {b data : List Nat} (hb : Bytes (· < h.next) h b v) (hd : Words (· < h.next) h data w) : Does Try.prog 5 #[v, w] h (fun u _ => u = .bool true) := by
  obtain ⟨ax, cx, rfl⟩ := hb.shape
  obtain ⟨ad, cd, rfl⟩ := hd.shape
  have hdl := hd.len
  refine spec_go mixed Try.func5 rfl Try.results5 (n := Try.f5.ntmps) (by kernel_rfl) (by simp) ?_
  simp only [go_sem, simprocAttr]
  have g1 : ((h.push (.cells [.bool false, .slice none 0 0, .int .i64 0, .int .i64 0, .int .i64 0] .rw)).push (.cells [.pointer none, .pointer (some ⟨h.next, 0, none⟩)] .rw)).get h.next = .cells [.bool false, .slice none 0 0, .int .i64 0, .int .i64 0, .int .i64 0] .rw := by simp only [go_sem, simprocAttr]
  have g2 : ((h.push (.cells [.bool false, .slice none 0 0, .int .i64 0, .int .i64 0, .int .i64 0] .rw)).push (.cells [.pointer none, .pointer (some ⟨h.next, 0, none⟩)] .rw)).get (h.next + 1) = .cells [.pointer none, .pointer (some ⟨h.next, 0, none⟩)] .rw := by simp only [go_sem, simprocAttr]
  have q0 : h.quiet ((h.push (.cells [.bool false, .slice none 0 0, .int .i64 0, .int .i64 0, .int .i64 0] .rw)).push (.cells [.pointer none, .pointer (some ⟨h.next, 0, none⟩)] .rw)) := by simp only [go_sem, simprocAttr]
  generalize (h.push (.cells [.bool false, .slice none 0 0, .int .i64 0, .int .i64 0, .int .i64 0] .rw)).push (.cells [.pointer none, .pointer (some ⟨h.next, 0, none⟩)] .rw) = k0 at g1 g2 q0
  refine go_cutb (fun ρ k => h.quiet k ∧ ρ 1 = .slice ad data.length cd) ?_ ?_
  · refine go_loop (fun z ρ k => ∃ i : Nat, i ≤ 2 ∧ z = 2 - i ∧ k0.quiet k ∧ ρ 0 = .slice ax b.length cx ∧ ρ 1 = .slice ad data.length cd ∧ ρ 19 = .slice (some ⟨h.next + 1, 0, none⟩) 2 2 ∧ ρ 20 = .int .i64 2 ∧ ρ 21 = .int .i64 i) 2 ⟨0, by omega, by omega, .refl _, by simp only [go_sem, simprocAttr]⟩ ?_
    rintro z ρ k ⟨i, hi, rfl, q, r0, r1, r19, r20, r21⟩
    have e1 := (q.2 _ (AHeap.lt_of_alive k0 (by rw [g1]; simp))).trans g1
    have e2 := (q.2 _ (AHeap.lt_of_alive k0 (by rw [g2]; simp))).trans g2
    simp only [go_sem, simprocAttr, r0, r1, r19, r20, r21]
    refine cnd_decide (fun hy => ?_) (fun hy => ?_)
    · have e9 : IntKind.i64.wrap ((i : Int) + 1) = ((i + 1 : Nat) : Int) := by rw [wi64] <;> omega
      have h1 : i < 2 := by omega
      obtain ⟨p, hp, hno⟩ : ∃ p, ([.pointer none, .pointer (some ⟨h.next, 0, none⟩)] : List Value)[i]? = some (.pointer p) ∧ NoS k p := by
        have : i = 0 ∨ i = 1 := by omega
        rcases this with rfl | rfl
        · exact ⟨none, rfl, .inl rfl⟩
        · exact ⟨_, rfl, .inr ⟨_, rfl, e1⟩⟩
      generalize ([.pointer none, .pointer (some ⟨h.next, 0, none⟩)] : List Value) = cl' at e2 hp
      simp only [go_sem, simprocAttr, r0, r1, r19, r20, r21, hy, h1, e2, hp]
      refine cl_spec (nsFeed_ok hno) (fun _ _ _ hc => absurd hc (by decide +kernel)) ?_
      rintro u k ⟨rfl, rfl⟩
      simp only [go_sem, simprocAttr, r0, r1, r19, r20, r21]
      refine cl_spec (nsWaits_ok hno) (fun _ _ _ hc => absurd hc (by decide +kernel)) ?_
      rintro u k ⟨rfl, rfl⟩
      simp only [go_sem, simprocAttr, r0, r1, r19, r20, r21]
      refine cl_spec (nsFault_ok hno) (fun _ _ _ hc => absurd hc (by decide +kernel)) ?_
      rintro u k2 ⟨rfl, q2⟩
      simp only [go_sem, simprocAttr, r0, r1, r19, r20, r21, e9]
      exact Hold.mk ⟨2 - (i + 1), by omega, i + 1, by omega, rfl, q.trans q2, by simp only [go_sem, simprocAttr, r0, r1, r19, r20]⟩
    · simp only [go_sem, simprocAttr, r1]
      exact Hold.mk ⟨q0.trans q, r1⟩
  · rintro ρ k1 ⟨q1, r1⟩
    have em : min (data.length : Int) 64 = ((min data.length 64 : Nat) : Int) := by omega
    have hmn : min data.length 64 ≤ data.length := Nat.min_le_left _ _
    obtain ⟨a1, c1, e5, s1⟩ := (hd.quiet q1).slice 1 rfl (l := 0) (m := min data.length 64) (by omega) hmn
    have e5 : slI 1 ad data.length cd (some 0) (some ((min data.length 64 : Nat) : Int)) = some (.slice a1 (min data.length 64) c1) := e5
    have s1 : Words (· < h.next) k1 (data.take (min data.length 64)) (.slice a1 (min data.length 64) c1) := s1
    have hDl : (data.take (min data.length 64)).length = min data.length 64 := by rw [List.length_take]; omega
    have hm64 : min data.length 64 ≤ 64 := Nat.min_le_right _ _
    generalize hme : min data.length 64 = m at *
    generalize data.take m = D at s1 hDl
    subst hDl
    simp only [go_sem, simprocAttr, r1, em, hme, e5]
    by_cases hz : D.length = 0
    · have hz1 : (D.length : Int) = 0 := by omega
      simp only [go_sem, simprocAttr, hz1, hz, decide_true]
      refine cl_spec salive_ok (fun u h' hp _ => hp.2) ?_
      rintro u k5 ⟨rfl, q5⟩
      simp only [go_sem, simprocAttr, eq_self, decide_true]
    · have hz1 : ¬ (D.length : Int) = 0 := by omega
      have hmay : (⟨2, 0, 0, 0, 0, 0, 0, D⟩ : Rec).may := ⟨⟨by unfold okF; simp, by unfold okF; simp, by unfold okF; simp, by unfold okF; simp, by unfold okF; simp, by unfold okF; simp, by unfold okF; simp⟩, .inr (.inl ⟨rfl, ⟨rfl, rfl, rfl, rfl, rfl⟩, by show 1 ≤ D.length; omega, by show D.length ≤ 64; omega⟩)⟩
      obtain ⟨v2, k2, e2, hl2, f2, _⟩ := (Lst.nil rW k1.next (fun _ => False) k1).app (ys := D) 1 rfl (bytes := 8) (n := D.length) (nat_all2 (fun n hn => s1.vals rfl n hn)) rfl (by simp; omega) (by simp; omega) (Nat.le_refl _)
      rw [nat_flat] at e2
      simp only [List.nil_append] at hl2
      have q2 : k1.quiet k2 := f2.quiet (fun j _ e => by cases e)
      obtain ⟨a2, c2, rfl, _⟩ := hl2.len
      simp only [go_sem, simprocAttr, hz1, hz, decide_false, s1.acellsN, e2]
      have hlx : Words (fun _ => True) k2 D (.slice a2 D.length c2) := hl2.isSl (fun _ e _ => e.elim) (fun _ _ => trivial)
      have hrec : IsSl rRec (fun _ => True) ((k2.push (.cells [.int .i64 2, .int .i64 0, .int .i64 0, .int .i64 0, .int .i64 0, .int .i64 0, .int .i64 0, .slice a2 D.length c2] .rw)).push (.cells [.int .i64 2, .int .i64 0, .int .i64 0, .int .i64 0, .int .i64 0, .int .i64 0, .int .i64 0, .slice a2 D.length c2] .rw)) [⟨2, 0, 0, 0, 0, 0, 0, D⟩] (.slice (some ⟨k2.next + 1, 0, none⟩) 1 1) := by
        have := one_rec (h := k2.push (.cells [.int .i64 2, .int .i64 0, .int .i64 0, .int .i64 0, .int .i64 0, .int .i64 0, .int .i64 0, .slice a2 D.length c2] .rw)) (m := ⟨2, 0, 0, 0, 0, 0, 0, D⟩) (md := .rw) (may_inI hmay) (hlx.quiet (.push _ _))
        rw [AHeap.next_push] at this
        exact this
      have q3 : k2.quiet ((k2.push (.cells [.int .i64 2, .int .i64 0, .int .i64 0, .int .i64 0, .int .i64 0, .int .i64 0, .int .i64 0, .slice a2 D.length c2] .rw)).push (.cells [.int .i64 2, .int .i64 0, .int .i64 0, .int .i64 0, .int .i64 0, .int .i64 0, .int .i64 0, .slice a2 D.length c2] .rw)) := (AHeap.quiet.push _ _).push' _
      generalize (k2.push (.cells [.int .i64 2, .int .i64 0, .int .i64 0, .int .i64 0, .int .i64 0, .int .i64 0, .int .i64 0, .slice a2 D.length c2] .rw)).push (.cells [.int .i64 2, .int .i64 0, .int .i64 0, .int .i64 0, .int .i64 0, .int .i64 0, .int .i64 0, .slice a2 D.length c2] .rw) = k3 at hrec q3
      refine cl_spec (Encode_ok hrec) (fun _ _ _ hc => absurd hc (by decide +kernel)) ?_
      rintro u k4 ⟨q4, hp4⟩
      have eX : encN [(⟨2, 0, 0, 0, 0, 0, 0, D⟩ : Rec)] = recB ⟨2, 0, 0, 0, 0, 0, 0, D⟩ := by simp [encN]
      have hXl := recB_len ⟨2, 0, 0, 0, 0, 0, 0, D⟩
      have hXl : (recB ⟨2, 0, 0, 0, 0, 0, 0, D⟩).length = 76 + 8 * D.length := hXl
      have hd64 := s1.lt64
      rw [encE_ok (l := [(⟨2, 0, 0, 0, 0, 0, 0, D⟩ : Rec)]) (by simpa using hmay) (by rw [eX]; omega), eX] at hp4
      obtain ⟨cw, rfl, hc4⟩ := hp4
      have hnp : ∀ w, w <+: recB ⟨2, 0, 0, 0, 0, 0, 0, D⟩ → w.length < (recB ⟨2, 0, 0, 0, 0, 0, 0, D⟩).length → readA w = ([], w, 0) := fun w hw hl => readA_wait (next_pre hmay (t := []) (by simpa using hw) hl)
      have hra : readA (recB ⟨2, 0, 0, 0, 0, 0, 0, D⟩) = ([⟨2, 0, 0, 0, 0, 0, 0, D⟩], [], 0) := by
        rw [← eX]
        refine read_all (fun r hr => ?_)
        rcases List.mem_singleton.1 hr with rfl
        exact ⟨hmay, hd64⟩
      generalize recB ⟨2, 0, 0, 0, 0, 0, 0, D⟩ = X at hc4 hXl hnp hra
      obtain ⟨ac, cc, rfl, _⟩ := hc4.len
      simp only [go_sem, simprocAttr]
      refine cl_spec snew_ok (fun _ _ _ hc => absurd hc (by decide +kernel)) ?_
      rintro u k5 ⟨rfl, q5, s5⟩
      have hk5 := s5.lt
      have hc5 := hc4.quiet q5
      have hl5 := hl2.quiet ((q3.trans q4).trans q5)
      have el : IntKind.i64.wrap ((X.length : Int) - 1) = ((X.length - 1 : Nat) : Int) := by rw [wi64] <;> omega
      obtain ⟨a6, c6, e6, s6⟩ := (hc5.isSl (S := fun _ => True) (fun _ e _ => e.elim) (fun _ _ => trivial)).slice 1 rfl (l := 0) (m := X.length - 1) (by omega) (by omega)
      have e6 : slI 1 ac X.length cc (some 0) (some ((X.length - 1 : Nat) : Int)) = some (.slice a6 (X.length - 1) c6) := e6
      have s6 : Bytes (fun _ => True) k5 (X.take (X.length - 1)) (.slice a6 (X.length - 1) c6) := s6
      have hXt : (X.take (X.length - 1)).length = X.length - 1 := by rw [List.length_take]; omega
      simp only [go_sem, simprocAttr, eq_self, decide_true, decide_false, el, e6]
      refine cl_spec (Feed_ok s5 s6 (by rw [List.nil_append]; omega)) (fun _ _ _ hc => absurd hc (by decide +kernel)) ?_
      rintro u k6 ⟨f6, hk6, s7⟩
      rw [List.nil_append, hnp _ (List.take_prefix _ _) (by omega)] at hk6 s7
      obtain ⟨au, cu, rfl⟩ := hk6.shape
      have hob4 := fun j e => (hc4.blk_ge (j := j) e)
      have hobl := fun j e => (hl2.blk_ge (j := j) e)
      have hc6 : Lst rB k3.next (fun _ => False) k6 X (.slice ac X.length cc) := hc5.mono (Nat.le_refl _) f6.1 (fun _ e _ _ => e.elim) (fun j e hj => f6.2 j hj (by have := (hob4 j e).2; omega))
      have hl6 : Lst rW k1.next (fun _ => False) k6 D (.slice a2 D.length c2) := hl5.mono (Nat.le_refl _) f6.1 (fun _ e _ _ => e.elim) (fun j e hj => f6.2 j hj (by have := (hobl j e).2; have := q3.1; have := q4.1; omega))
      obtain ⟨ob, cb, x, rfl, hob, hob2, hgo, hcx, hcl, hxl, hx8, _⟩ := hc6.setN (i := X.length - 1) (by omega)
      have hobk : ob < k4.next := (hob4 ob rfl).2
      have hne : X.length - 1 < X.length := by omega
      simp only [go_sem, simprocAttr, el, hne, hgo, hcx]
      clear hgo hcx hcl
      have q56 : k1.quiet k6 := Fw.behind (((q2.trans q3).trans q4).trans q5) f6 (fun j e => by have := q2.1; have := q3.1; have := q4.1; omega)
      have f16 : Fw (fun j => k1.next ≤ j) k1 k6 := .of_quiet q56
      refine go_cutb (fun ρ k => ∃ (X' : List Nat), X'.length = X.length ∧ Fw (fun j => k1.next ≤ j) k1 k ∧ k6.next ≤ k.next ∧ Lst rW k1.next (fun _ => False) k D (.slice a2 D.length c2) ∧ StAt (k5.next ≤ ·) k k4.next (X.take (X.length - 1)) 0 ∧ ρ 1 = .slice a1 D.length c1 ∧ ρ 7 = .slice a2 D.length c2 ∧ ρ 11 = .pointer (some ⟨k4.next, 0, none⟩) ∧ ρ 12 = .slice au 0 cu ∧ ρ 13 = .int .u8 (x : Nat)) ?_ ?_
      · refine go_loop (fun z ρ k => ∃ (i : Nat) (X' : List Nat), i ≤ X.length ∧ z = X.length - i ∧ X'.length = X.length ∧ Fw (fun j => k1.next ≤ j) k1 k ∧ k6.next ≤ k.next ∧ Lst rB k3.next (fun _ => False) k X' (.slice (some ⟨ob, 0, some 1⟩) X.length cc) ∧ Lst rW k1.next (fun _ => False) k D (.slice a2 D.length c2) ∧ StAt (k5.next ≤ ·) k k4.next (X.take (X.length - 1)) 0 ∧ ρ 1 = .slice a1 D.length c1 ∧ ρ 7 = .slice a2 D.length c2 ∧ ρ 9 = .slice (some ⟨ob, 0, some 1⟩) X.length cc ∧ ρ 11 = .pointer (some ⟨k4.next, 0, none⟩) ∧ ρ 12 = .slice au 0 cu ∧ ρ 13 = .int .u8 (x : Nat) ∧ ρ 82 = .int .i64 X.length ∧ ρ 83 = .int .i64 i) X.length ⟨0, X, by omega, by omega, rfl, f16, Nat.le_refl _, hc6, hl6, s7, by simp only [go_sem, simprocAttr, r1]⟩ ?_
        rintro z ρ k ⟨i, X', hi, rfl, hX', f, hnx, hcX, hlD, st, r1, r7, r9, r11, r12, r13, r82, r83⟩
        simp only [go_sem, simprocAttr, r1, r7, r9, r11, r12, r13, r82, r83]
        refine cnd_decide (fun hy => ?_) (fun hy => ?_)
        · have h1 : i < X.length := by omega
          have e9 : IntKind.i64.wrap ((i : Int) + 1) = ((i + 1 : Nat) : Int) := by rw [wi64] <;> omega
          obtain ⟨ob', cb', z', hobe, _, hobn, hgo, hcx, hcl, _, _, hset⟩ := hcX.setN h1
          cases hobe
          obtain ⟨y, ey, hy8⟩ := u8_exS (((BitVec.ofInt 8 (z' : Int) ^^^ 255#8).toNat : Nat) : Int)
          have hl1 : i + 1 ≤ cb'.length := by omega
          simp only [go_sem, simprocAttr, r1, r7, r9, r11, r12, r13, r82, r83, hy, h1, hgo, hcx, hl1, e9]
          have s1 := hset y hy8
          have fs : Fw (· = ob) k (k.set ob (.cells (cb'.set i (.int .u8 (y : Nat))) (.tail 1))) := .set _
          rw [← ey] at s1 fs
          have hk1o : k1.next ≤ ob := by have := (hob4 ob rfl).1; have := q2.1; have := q3.1; omega
          refine Hold.mk ⟨X.length - (i + 1), by omega, i + 1, X'.set i y, by omega, rfl, by simpa using hX', f.trans fs (fun _ _ e => e) (fun j _ e => by omega), by simpa using hnx, s1, hlD.mono (Nat.le_refl _) (by simp) (fun _ e _ _ => e.elim) (fun j e hj => fs.2 j hj (by have := (hobl j e).2; have := (hob4 ob rfl).1; have := q3.1; omega)), ?_, by simp only [go_sem, simprocAttr, r1, r7, r9, r11, r12, r13, r82]⟩
          obtain ⟨v7, z7, f7, hg7, hb7, hni7, hf7⟩ := st
          exact ⟨v7, z7, f7, (fs.2 _ (AHeap.lt_of_alive k (by rw [hg7]; simp)) (by omega)).trans hg7, hb7.fr fs (fun j hj _ e => by omega), hni7, hf7⟩
        · simp only [go_sem, simprocAttr, r1, r7, r9, r11, r12, r13]
          exact Hold.mk ⟨X', hX', f, hnx, hlD, st, r1, r7, r11, r12, r13⟩
      · rintro ρ k ⟨X', hX', f, hnx, hlD, st, r1, r7, r11, r12, r13⟩
        simp only [go_sem, simprocAttr, r1, r7, r11, r12, r13]
        have qp : k.quiet (k.push (.cells [.int .u8 (x : Nat)] .rw)) := .push _ _
        have h1 : Bytes (fun _ => True) (k.push (.cells [.int .u8 (x : Nat)] .rw)) [x] (.slice (some ⟨k.next, 0, none⟩) 1 1) := (IsSl.fresh1 hx8).weaken fun _ _ => trivial
        have hXe : X.take (X.length - 1) ++ [x] = X := by
          have e := List.take_append_drop (X.length - 1) X
          rw [drop_cons hxl, List.drop_of_length_le (by omega)] at e
          exact e
        refine cl_spec (Feed_ok (st.quiet qp) h1 (by rw [hXe]; omega)) (fun _ _ _ hc => absurd hc (by decide +kernel)) ?_
        rintro u k7 ⟨f7, hk7, s8⟩
        rw [hXe, hra] at hk7
        obtain ⟨ag, cg, rfl⟩ := hk7.shape
        have hlen1 : ([⟨2, 0, 0, 0, 0, 0, 0, D⟩] : List Rec).length = 1 := rfl
        simp only [hlen1] at hk7 ⊢
        have hkk : k.next < (k.push (.cells [.int .u8 (x : Nat)] .rw)).next := by simp
        have hl7 : Lst rW k1.next (fun _ => False) k7 D (.slice a2 D.length c2) := (hlD.quiet qp).mono (Nat.le_refl _) f7.1 (fun _ e _ _ => e.elim) (fun j e hj => f7.2 j hj (by have := (hobl j e).2; have := q3.1; have := q4.1; omega))
        have F7 : Fw (fun j => k1.next ≤ j) k1 k7 := (f.then qp).trans f7 (fun _ _ e => e) (fun j hj e => by have := q2.1; have := q3.1; have := q4.1; omega)
        generalize (k.push (.cells [.int .u8 (x : Nat)] .rw)).next = n7 at hk7 hkk
        clear f7 s8 hlD st qp h1
        simp only [go_sem, simprocAttr, r1, r7, r11, r12, r13]
        refine go_cutb (fun ρ k' => Fw (fun j => k1.next ≤ j) k1 k' ∧ IsSl rRec (n7 ≤ ·) k' [⟨2, 0, 0, 0, 0, 0, 0, D⟩] (.slice ag 1 cg) ∧ ρ 1 = .slice a1 D.length c1 ∧ ρ 12 = .slice au 0 cu ∧ ρ 15 = .slice ag 1 cg) ?_ ?_
        · refine go_loop (fun z ρ k' => ∃ (i : Nat) (D' : List Nat), i ≤ D.length ∧ z = D.length - i ∧ D'.length = D.length ∧ Fw (fun j => k1.next ≤ j) k1 k' ∧ Lst rW k1.next (fun _ => False) k' D' (.slice a2 D.length c2) ∧ IsSl rRec (n7 ≤ ·) k' [⟨2, 0, 0, 0, 0, 0, 0, D⟩] (.slice ag 1 cg) ∧ ρ 1 = .slice a1 D.length c1 ∧ ρ 7 = .slice a2 D.length c2 ∧ ρ 12 = .slice au 0 cu ∧ ρ 15 = .slice ag 1 cg ∧ ρ 98 = .int .i64 D.length ∧ ρ 99 = .int .i64 i) D.length ⟨0, D, by omega, by omega, rfl, F7, hl7, hk7, by simp only [go_sem, simprocAttr, r1, r7, r11, r12]⟩ ?_
          rintro z ρ k' ⟨i, D', hi, rfl, hD', f, hlD, hk, r1, r7, r12, r15, r98, r99⟩
          simp only [go_sem, simprocAttr, r1, r7, r12, r15, r98, r99]
          refine cnd_decide (fun hy => ?_) (fun hy => ?_)
          · have h1 : i < D.length := by omega
            have e9 : IntKind.i64.wrap ((i : Int) + 1) = ((i + 1 : Nat) : Int) := by rw [wi64] <;> omega
            obtain ⟨od, cb', z', rfl, hod, hodn, hgo, hcx, hcl, _, _, hset⟩ := hlD.setN h1
            obtain ⟨y, ey, hy8⟩ := u64_exS ((z' : Int) + 1)
            have hl1 : i + 1 ≤ cb'.length := by omega
            have hodl : od < k2.next := (hobl od rfl).2
            simp only [go_sem, simprocAttr, r1, r7, r12, r15, r98, r99, hy, h1, hgo, hcx, hl1, e9, ey]
            have s1' := hset y hy8
            have fs : Fw (· = od) k' (k'.set od (.cells (cb'.set i (.int .u64 (y : Nat))) (.tail 1))) := .set _
            exact Hold.mk ⟨D.length - (i + 1), by omega, i + 1, D'.set i y, by omega, rfl, by simpa using hD', f.trans fs (fun _ _ e => e) (fun j _ e => by omega), s1', hk.fr fs (fun j hj _ e => by have := q3.1; have := q4.1; omega), by simp only [go_sem, simprocAttr, r1, r7, r12, r15, r98]⟩
          · simp only [go_sem, simprocAttr, r1, r7, r12, r15]
            exact Hold.mk ⟨f, hk, r1, r12, r15⟩
        · rintro ρ k' ⟨f, hk, r1, r12, r15⟩
          obtain ⟨b, off, sp, cc, md, m, mv, hA, _, hg, hmi, hmv, _, hle, hdt⟩ := IsSl.atR hk (i := 0) (by decide)
          obtain rfl : m = ⟨2, 0, 0, 0, 0, 0, 0, D⟩ := by simpa using hmi.symm
          obtain ⟨am, cm, rfl⟩ := hmv.shape
          have x7 : cc[off + 7]? = some (.slice am D.length cm) := by have := seg_get hdt (k := 7) (by omega); simp only [Nat.zero_mul, Nat.add_zero] at this; rwa [rc_7] at this
          have s1k : Words (· < h.next) k' D (.slice a1 D.length c1) := s1.fr f (fun j hj _ e => by have := q1.1; omega)
          simp only [go_sem, simprocAttr, r1, r12, r15, eq_self, decide_true, hA, hg, x7]
          refine cl_spec (Words_ok hmv s1k) (fun _ _ _ hc => absurd hc (by decide +kernel)) ?_
          rintro u k8 ⟨rfl, rfl⟩
          simp only [go_sem, simprocAttr, eq_self, decide_true]
          refine cl_spec salive_ok (fun u h' hp _ => hp.2) ?_
          rintro u k9 ⟨rfl, q9⟩
          simp only [go_sem, simprocAttr, eq_self, decide_true]
end
end Go.Proofs.Ytghohleoodkdgaa
