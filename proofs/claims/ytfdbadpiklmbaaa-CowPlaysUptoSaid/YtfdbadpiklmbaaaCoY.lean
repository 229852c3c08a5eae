/- cow: the law CowNobody: what its call comes to. -/
import Derived.Test.YtfdbadpiklmbaaaCoX
set_option linter.unusedSimpArgs false
set_option linter.unusedVariables false
set_option linter.unnecessarySimpa false
set_option maxRecDepth 100000
namespace Go.Proofs.Ytfdbadpiklmbaaa
open Go.AM

def x4 : Ext := ⟨0, 4, 0, 0⟩
theorem x4_ok : x4.ok := by decide
theorem put4 : F.put [.nil] 0 x4 = ((1, 0), [.nil, Tput .nil x4]) := by
  unfold F.put
  rw [if_pos (by decide), if_pos x4_ok]; rfl
theorem tput4 : GT (Tput .nil x4) ∧ (Tput .nil x4).list = [x4] := by
  obtain ⟨a, b⟩ := Tput_good GT.nil x4_ok
  exact ⟨a, by rw [b]; rfl⟩
/-- A list of one extent, whatever it is. -/
def Ls1 (own : Nat → Nat) (h : AHeap) (v : Value) : Prop := ∃ ob c, v = .slice (some ⟨ob, 0, some 4⟩) 1 1 ∧ own ob = 6 ∧ h.get ob = .cells c (.tail 4) ∧ c.length = 4
section
variable {own own' own'' : Nat → Nat} {h h' h'' h0 : AHeap} {S S' Z : Nat → Prop} {id : Nat} {p : Option Addr}
theorem Ls1.quiet {v : Value} (l : Ls1 own h v) (q : h.quiet h') (t : Nat) : Ls1 (bump own h t) h' v := by
  obtain ⟨ob, c, e, ho, hg, hl⟩ := l
  have hlt : ob < h.next := AHeap.lt_of_alive h (by rw [hg]; simp)
  exact ⟨ob, c, e, (bump_lt hlt).trans ho, (q.2 ob hlt).trans hg, hl⟩
theorem Ls1.of {x : Ext} {v : Value} {h0 : AHeap} (o : OwnL rExt (h0.next ≤ ·) h [x] v) (t : ∀ j, h0.next ≤ j → own j = 6) : Ls1 own h v := by
  obtain ⟨⟨css, ha, h0, ⟨a, _, e, _⟩ | ⟨ob, e, _, hg⟩⟩, hz⟩ := o
  · cases e
  · subst e
    exact ⟨ob, _, rfl, t ob (hz ob rfl), hg, by rw [ha.flat]; rfl⟩
theorem Ls1.set {v : Value} (l : Ls1 own h v) {ob : Nat} {c : List Value} (hg : h.get ob = .cells c (.tail 4)) (hc : c.length = 4) : Ls1 own (h.set ob (.cells c (.tail 4))) v := by
  obtain ⟨ob', c', e, ho, hg', hl⟩ := l
  rw [AHeap.set_get hg (by simp)]
  exact ⟨ob', c', e, ho, hg', hl⟩
theorem putCells_len : ∀ (vs c : List Value) (o : Nat), (putCells c o vs).length = c.length
  | [], _, _ => rfl
  | v :: vs, c, o => by simp only [putCells]; rw [putCells_len vs, List.length_set]
theorem Ls1.put {v : Value} (l : Ls1 own h v) {ob : Nat} {c c2 : List Value} (hg : h.get ob = .cells c (.tail 4)) (hc : c2.length = 4) : Ls1 own (h.set ob (.cells c2 (.tail 4))) v := by
  obtain ⟨ob', c', e, ho, hg', hl⟩ := l
  by_cases hb : ob' = ob
  · subst hb
    exact ⟨ob', c2, e, ho, AHeap.get_set_self _ _ (AHeap.lt_of_alive h (by rw [hg']; simp)), hc⟩
  · exact ⟨ob', c', e, ho, (AHeap.get_set_ne _ _ (Ne.symm hb)).trans hg', hl⟩

theorem nobody_ok {a : Act} : Does Try.prog 8 #[.agg a.cs.toArray] h (fun u _ => u = .bool true) := by
  refine spec_go mixed Try.func8 rfl Try.results8 (n := Try.f8.ntmps) (by kernel_rfl) (by simp) ?_
  simp only [go_sem, simprocAttr, Act.cs]
  refine go_gen fun k1 e1 => ?_
  have g1 : k1.get h.next = .cells a.cs .rw := by rw [e1]; simp only [go_sem, simprocAttr, Act.cs]
  have gF : k1.get (h.next + 1) = .cells [.slice none 0 0] .rw := by rw [e1]; simp only [go_sem, simprocAttr]
  have gS : k1.get (h.next + 1 + 1) = .cells [.pointer none, .pointer (some ⟨h.next + 1, 0, none⟩)] .rw := by rw [e1]; simp only [go_sem, simprocAttr]
  have n1 : k1.next = h.next + 3 := by rw [e1]; simp
  clear e1
  have hcl : ∀ i : Nat, i < 2 → ∃ p, ([.pointer none, .pointer (some ⟨h.next + 1, 0, none⟩)] : List Value)[i]? = some (.pointer p) ∧ NoF k1 p := by
    intro i hi
    rcases i with _ | _ | i
    · exact ⟨none, rfl, .inl rfl⟩
    · exact ⟨_, rfl, .inr ⟨_, rfl, gF⟩⟩
    · omega
  have hc2 : ([.pointer none, .pointer (some ⟨h.next + 1, 0, none⟩)] : List Value).length = 2 := rfl
  generalize ([.pointer none, .pointer (some ⟨h.next + 1, 0, none⟩)] : List Value) = cl at gS hcl hc2
  unfold Act.cs at g1
  refine go_loop (fun z ρ K => ∃ i : Nat, i ≤ 2 ∧ z = 2 - i ∧ k1.quiet K ∧ ρ 1 = .pointer (some ⟨h.next, 0, none⟩) ∧ ρ 26 = .slice (some ⟨h.next + 1 + 1, 0, none⟩) 2 2 ∧ ρ 27 = .int .i64 2 ∧ ρ 28 = .int .i64 i) 2 ⟨0, by omega, by omega, .refl _, by simp only [go_sem, simprocAttr]⟩ ?_
  rintro z ρ K ⟨i, hi, rfl, qK, r1, r26, r27, r28⟩
  simp only [go_sem, simprocAttr, r1, r26, r27, r28]
  have gSK := (qK.2 _ (by omega)).trans gS
  have g1K := (qK.2 h.next (by omega)).trans g1
  refine cnd_decide (fun hy => ?_) (fun hy => ?_)
  · have h2 : i < 2 := by omega
    have h2I : (i : Int) < 2 := by omega
    have e9 : IntKind.i64.wrap ((i : Int) + 1) = ((i + 1 : Nat) : Int) := by rw [wi64] <;> omega
    obtain ⟨p, hp, hno⟩ := hcl i h2
    simp only [go_sem, simprocAttr, r1, r26, r27, r28, gSK, hp, h2I, g1K]
    have hd := ndoes_ok (hno.quiet qK) (a := a)
    unfold Act.cs at hd
    refine cl_spec hd (fun _ _ _ hc => absurd hc (by decide +kernel)) ?_
    rintro u K1 ⟨rfl, q1⟩
    have Q1 := qK.trans q1
    simp only [go_sem, simprocAttr]
    refine cl_spec (nlist_ok (hno.quiet Q1)) (fun _ _ _ hc => absurd hc (by decide +kernel)) ?_
    rintro u K2 ⟨rfl, q2⟩
    have Q2 := Q1.trans q2
    simp only [go_sem, simprocAttr]
    refine cl_spec (npart_ok (hno.quiet Q2)) (fun _ _ _ hc => absurd hc (by decide +kernel)) ?_
    rintro u K3 ⟨rfl, q3⟩
    have Q3 := Q2.trans q3
    simp only [go_sem, simprocAttr]
    refine cl_spec (nat_ok (hno.quiet Q3)) (fun _ _ _ hc => absurd hc (by decide +kernel)) ?_
    rintro u K4 ⟨rfl, q4⟩
    have Q4 := Q3.trans q4
    simp only [go_sem, simprocAttr, show IntKind.i64.wrap 0 = 0 from rfl]
    refine cl_spec (ndeep_ok (hno.quiet Q4)) (fun _ _ _ hc => absurd hc (by decide +kernel)) ?_
    rintro u K5 ⟨rfl, q5⟩
    have Q5 := Q4.trans q5
    simp only [go_sem, simprocAttr]
    refine cl_spec (nsize_ok (hno.quiet Q5)) (fun _ _ _ hc => absurd hc (by decide +kernel)) ?_
    rintro u K6 ⟨rfl, q6⟩
    have Q6 := Q5.trans q6
    simp only [go_sem, simprocAttr]
    refine cl_spec (nfresh_ok (hno.quiet Q6)) (fun _ _ _ hc => absurd hc (by decide +kernel)) ?_
    rintro u K7 ⟨rfl, q7⟩
    have Q7 := Q6.trans q7
    simp only [go_sem, simprocAttr]
    refine cl_spec (ntrees_ok (hno.quiet Q7)) (fun _ _ _ hc => absurd hc (by decide +kernel)) ?_
    rintro u K8 ⟨rfl, hk⟩
    obtain rfl : K7 = K8 := hk.symm
    simp only [go_sem, simprocAttr, r28, e9]
    exact Hold.mk ⟨2 - (i + 1), by omega, i + 1, by omega, rfl, Q7, by simp only [go_sem, simprocAttr, r1, r26, r27]⟩
  clear r1 r26 r27 r28 gSK g1K g1 gF gS hcl
  simp only [go_sem, simprocAttr]
  refine cl_spec (newForest_ok (own := fun _ => 0)) (fun _ _ _ hc => absurd hc (by decide +kernel)) ?_
  rintro u k0 ⟨rfl, q0, hf⟩
  generalize K.next + 1 = id at hf
  generalize bump (fun _ => 0) K 1 = own at hf
  simp only [go_sem, simprocAttr]
  have hp := putF_ok hf GF.new.1 GF.new.ok (by decide) (root := 0) x4_ok.inI
  rw [put4] at hp
  unfold Ext.ag x4 at hp
  refine cl_spec hp (fun _ _ _ hc => absurd hc (by decide +kernel)) ?_
  rintro u k2 ⟨rfl, own2, hf2, _⟩
  replace hf2 : FoAt own2 k2 id [T.nil, Tput .nil x4] := hf2
  obtain ⟨gt4, hl4⟩ := tput4
  have g2 : GF [.nil, Tput .nil x4] := GF.new.snoc gt4
  have h1t : [T.nil, Tput .nil x4][1]? = some (Tput .nil x4) := rfl
  simp only [go_sem, simprocAttr]
  have ha2 := again_ok hf2 g2 h1t
  rw [hl4] at ha2
  refine cl_spec ha2 (fun _ _ _ hc => absurd hc (by decide +kernel)) ?_
  rintro u k3 ⟨v3, rfl, o3, q3⟩
  have hf3 := hf2.quiet q3 6
  have l3 : Ls1 (bump own2 k2 6) k3 v3 := Ls1.of o3 fun j hj => bump_ge hj
  generalize bump own2 k2 6 = own3 at hf3 l3
  simp only [go_sem, simprocAttr]
  have hpt : F.part [T.nil, Tput .nil x4] 1 0 4 = ([x4], 0) := by
    unfold F.part
    rw [if_pos (show Has [T.nil, Tput .nil x4] 1 from ⟨by decide, by decide⟩), if_pos (by decide)]
    show ((Tput .nil x4).parts 0 (0 + 4), 0) = _
    rw [T.parts_eq _ _ gt4.1, hl4]; rfl
  have hp4 := partF_ok hf3 g2.1 g2.ok (root := 1) (o := 0) (n := 4) ⟨by decide, by decide⟩ ⟨by decide, by decide⟩
  rw [hpt] at hp4
  refine cl_spec hp4 (fun _ _ _ hc => absurd hc (by decide +kernel)) ?_
  rintro u k4 ⟨v4, rfl, o4, q4⟩
  have hf4 := hf3.quiet q4 6
  have l34 := l3.quiet q4 6
  have l4 : Ls1 (bump own3 k3 6) k4 v4 := Ls1.of o4 fun j hj => bump_ge hj
  generalize bump own3 k3 6 = own4 at hf4 l34 l4
  have s3 : ∃ b, v3 = .slice (some ⟨b, 0, some 4⟩) 1 1 := by obtain ⟨b, _, e, _⟩ := l34; exact ⟨b, e⟩
  have s4 : ∃ b, v4 = .slice (some ⟨b, 0, some 4⟩) 1 1 := by obtain ⟨b, _, e, _⟩ := l4; exact ⟨b, e⟩
  obtain ⟨b3, rfl⟩ := s3
  obtain ⟨b4, rfl⟩ := s4
  simp only [go_sem, simprocAttr]
  refine go_gen fun k5 e5 => ?_
  have q5 : k4.quiet k5 := by rw [e5]; exact .push _ _
  have g5 : k5.get k4.next = .cells [.slice (some ⟨b3, 0, some 4⟩) 1 1, .slice (some ⟨b4, 0, some 4⟩) 1 1] .rw := by rw [e5]; simp only [go_sem, simprocAttr]
  have n5 : k4.next < k5.next := by rw [e5]; simp
  clear e5
  have hf5 := hf4.quiet q5 0
  have l35 := l34.quiet q5 0
  have l5 := l4.quiet q5 0
  have hz5 : bump own4 k4 0 k4.next = 0 := bump_ge (Nat.le_refl _)
  generalize bump own4 k4 0 = own5 at hf5 l35 l5 hz5
  have hcl : ∀ i : Nat, i < 2 → ∃ b, ([.slice (some ⟨b3, 0, some 4⟩) 1 1, .slice (some ⟨b4, 0, some 4⟩) 1 1] : List Value)[i]? = some (.slice (some ⟨b, 0, some 4⟩) 1 1) ∧ (b = b3 ∨ b = b4) := by
    intro i hi
    rcases i with _ | _ | i
    · exact ⟨b3, rfl, .inl rfl⟩
    · exact ⟨b4, rfl, .inr rfl⟩
    · omega
  generalize ([.slice (some ⟨b3, 0, some 4⟩) 1 1, .slice (some ⟨b4, 0, some 4⟩) 1 1] : List Value) = cl at g5 hcl
  refine go_loop (fun z ρ K => ∃ i : Nat, i ≤ 2 ∧ z = 2 - i ∧ FoAt own5 K id [T.nil, Tput .nil x4] ∧ Ls1 own5 K (.slice (some ⟨b3, 0, some 4⟩) 1 1) ∧ Ls1 own5 K (.slice (some ⟨b4, 0, some 4⟩) 1 1) ∧ K.get k4.next = .cells cl .rw ∧
    ρ 14 = .pointer (some ⟨id, 0, none⟩) ∧ ρ 118 = .slice (some ⟨k4.next, 0, none⟩) 2 2 ∧ ρ 119 = .int .i64 2 ∧ ρ 120 = .int .i64 i) 2 ⟨0, by omega, by omega, hf5, l35, l5, g5, by simp only [go_sem, simprocAttr]⟩ ?_
  clear hf5 l35 l5 g5
  rintro z ρ K6 ⟨i, hi, rfl, hf6, l36, l46, g6, r14, r118, r119, r120⟩
  simp only [go_sem, simprocAttr, r14, r118, r119, r120]
  refine cnd_decide (fun hy => ?_) (fun hy => ?_)
  · have h2 : i < 2 := by omega
    have h2I : (i : Int) < 2 := by omega
    have e9 : IntKind.i64.wrap ((i : Int) + 1) = ((i + 1 : Nat) : Int) := by rw [wi64] <;> omega
    obtain ⟨b, hb, hbb⟩ := hcl i h2
    simp only [go_sem, simprocAttr, r14, r118, r119, r120, g6, hb, h2I]
    refine go_loop (fun z ρ K => ∃ j : Nat, j ≤ 1 ∧ z = 1 - j ∧ FoAt own5 K id [T.nil, Tput .nil x4] ∧ Ls1 own5 K (.slice (some ⟨b3, 0, some 4⟩) 1 1) ∧ Ls1 own5 K (.slice (some ⟨b4, 0, some 4⟩) 1 1) ∧ K.get k4.next = .cells cl .rw ∧
      ρ 14 = .pointer (some ⟨id, 0, none⟩) ∧ ρ 118 = .slice (some ⟨k4.next, 0, none⟩) 2 2 ∧ ρ 119 = .int .i64 2 ∧ ρ 120 = .int .i64 i ∧ ρ 20 = .slice (some ⟨b, 0, some 4⟩) 1 1 ∧ ρ 125 = .int .i64 1 ∧ ρ 126 = .int .i64 j) 1 ⟨0, by omega, by omega, hf6, l36, l46, g6, by simp only [go_sem, simprocAttr, r14, r118, r119, r120]⟩ ?_
    clear hf6 l36 l46 g6 r14 r118 r119 r120
    rintro z ρ K7 ⟨j, hj, rfl, hf7, l37, l47, g7, r14, r118, r119, r120, r20, r125, r126⟩
    simp only [go_sem, simprocAttr, r14, r118, r119, r120, r20, r125, r126]
    refine cnd_decide (fun hw => ?_) (fun hw => ?_)
    · have hj0 : j = 0 := by omega
      subst hj0
      have lb : Ls1 own5 K7 (.slice (some ⟨b, 0, some 4⟩) 1 1) := by rcases hbb with rfl | rfl <;> assumption
      obtain ⟨ob, c, e, ho, hg, hlc⟩ := lb
      cases e
      have lob : b < K7.next := AHeap.lt_of_alive K7 (by rw [hg]; simp)
      have hle : 4 ≤ c.length := by omega
      simp only [go_sem, simprocAttr, r20, r125, r126, hg, hle, show IntKind.i64.wrap 1 = 1 from rfl]
      refine Hold.mk ⟨0, by omega, 1, by omega, rfl, ?_, l37.put hg (by simpa using hlc), l47.put hg (by simpa using hlc), ?_, by simp only [go_sem, simprocAttr, r14, r118, r119, r120, r20, r125]⟩
      · exact hf7.mono (by simp) fun s hs j hj hl => ⟨hj, AHeap.get_set_ne _ _ (by rintro rfl; have : own5 b = s := hj; omega)⟩
      · rw [AHeap.get_set_ne _ _ (by rintro rfl; omega)]; exact g7
    · simp only [go_sem, simprocAttr, r120, e9]
      exact Hold.mk ⟨2 - (i + 1), by omega, i + 1, by omega, rfl, hf7, l37, l47, g7, by simp only [go_sem, simprocAttr, r14, r118, r119]⟩
  · simp only [go_sem, simprocAttr, r14]
    have ha6 := again_ok hf6 g2 h1t
    rw [hl4] at ha6
    refine cl_spec ha6 (fun _ _ _ hc => absurd hc (by decide +kernel)) ?_
    rintro u k7 ⟨v7, rfl, o7, q7⟩
    obtain ⟨a7, c7, rfl⟩ := o7.sl.shape
    simp only [go_sem, simprocAttr]
    refine cl_gen fun k8 e8 => ?_
    have q8 : k7.quiet k8 := by rw [e8]; exact .push _ _
    have g8 : k8.get k7.next = .cells x4.cs .rw := by rw [e8]; simp only [go_sem, simprocAttr]; rfl
    clear e8
    have hsl : IsSl rExt (fun _ => True) k8 [x4] (.slice (some ⟨k7.next, 0, none⟩) 1 1) := .fresh (css := [x4.cs]) (.cons (rExt_iff.2 ⟨rfl, x4_ok.inI⟩) .nil) rfl (by decide) trivial g8 (by simp)
    refine cl_spec (same_ok (o7.sl.quiet q8) hsl) (fun _ _ _ hc => absurd hc (by decide +kernel)) ?_
    rintro u k9 ⟨rfl, hk⟩
    obtain rfl : k8 = k9 := hk.symm
    simp only [go_sem, simprocAttr, decide_true]
    refine cl_spec (alive_ok _) (fun _ _ _ hc => absurd hc (by decide +kernel)) ?_
    rintro u k10 ⟨rfl, hk⟩
    simp only [go_sem, simprocAttr]
end
end Go.Proofs.Ytfdbadpiklmbaaa
