/- cow: Fresh, and the law CowFresh. -/
import Derived.Test.YtfdbadpiklmbaaaFrF
set_option linter.unusedSimpArgs false
set_option linter.unusedVariables false
set_option linter.unnecessarySimpa false
set_option maxRecDepth 100000
namespace Go.Proofs.Ytfdbadpiklmbaaa
open Go.AM
section
variable {own own' own'' : Nat → Nat} {h h' h'' h0 : AHeap} {S S' Z : Nat → Prop} {id : Nat} {ts : List T} {ps : List (Option Nat)} {v : Value}
theorem fresh_p (ha : FoP own h id ps ts) (hp : ts ≠ []) {a b : Int} {ta tb : T} {pa pb : Option Nat} {La Lb : List Nat} (hha : Has ts a) (hhb : Has ts b) (epa : ps[a.toNat]? = some pa) (epb : ps[b.toNat]? = some pb)
    (iA : IdAt h ta (.pointer (pa.map fun id => ⟨id, 0, none⟩)) La) (iB : IdAt h tb (.pointer (pb.map fun id => ⟨id, 0, none⟩)) Lb) (hl : Lb.length ≤ 1099511627775) :
    Does Try.prog 28 #[.pointer (some ⟨id, 0, none⟩), .int .i64 a, .int .i64 b] h (fun u h' => u = .int .i64 ((Lb.filter fun j => !decide (j ∈ La)).length : Nat) ∧ h.quiet h') := by
  refine spec_go mixed Try.func28 rfl Try.results28 (n := Try.f28.ntmps) (by kernel_rfl) (by simp) ?_
  simp only [go_sem, simprocAttr]
  refine cl_spec (find_p ha hp (root := a)) (fun _ _ _ hc => absurd hc (by decide +kernel)) ?_
  rintro u k ⟨q, ⟨_, t1, p1, r1, e1, e2, _, _, rfl⟩ | ⟨hn, _⟩⟩
  rotate_left
  · exact absurd hha hn
  rw [epa] at e2
  cases e2
  subst e1
  generalize hqa : (pa.map fun id => (⟨id, 0, none⟩ : Addr)) = qa at iA
  simp only [go_sem, simprocAttr]
  refine cl_gen fun k1 f1 => ?_
  have q1 : k.quiet k1 := by rw [f1]; simp only [go_sem, simprocAttr]
  have g1 : k1.get k.next = .cells [.pointer qa] .rw := by rw [f1]; simp only [go_sem, simprocAttr]
  have n1 : k1.next = k.next + 1 := by rw [f1]; simp
  clear f1
  have Q1 := q.trans q1
  refine cl_spec (find_p (ha.quiet Q1 0) hp (root := b)) (fun _ _ _ hc => absurd hc (by decide +kernel)) ?_
  rintro u k2 ⟨q2, ⟨_, t2, p2, r2, e3, e4, _, _, rfl⟩ | ⟨hn, _⟩⟩
  rotate_left
  · exact absurd hhb hn
  rw [epb] at e4
  cases e4
  subst e3
  generalize hqb : (pb.map fun id => (⟨id, 0, none⟩ : Addr)) = qb at iB
  have Q2 := Q1.trans q2
  have g2 : k2.get k.next = _ := (q2.2 _ (by omega)).trans g1
  have l2 : k.next < k2.next := by have := q2.1; omega
  have gp3 : ∀ o o' o'', (((k2.push o).push o').push o'').get k.next = .cells [.pointer qa] .rw := fun o o' o'' =>
    (((AHeap.get_push_lt _ _ (by simp; omega)).trans (AHeap.get_push_lt _ _ (by simp; omega))).trans (AHeap.get_push_lt _ _ l2)).trans g2
  simp only [go_sem, simprocAttr, gp3]
  refine cl_gen fun k3 f3 => ?_
  have q3 : k2.quiet k3 := by rw [f3]; exact ((AHeap.quiet.push _ _).trans (AHeap.quiet.push _ _)).trans (AHeap.quiet.push _ _)
  have g3 : k3.get k2.next = .cells [.pointer qb] .rw := by rw [f3]; simp only [go_sem, simprocAttr]
  have g4 : k3.get (k2.next + 1) = .map [] 0 := by rw [f3]; simp only [go_sem, simprocAttr]
  have g5 : k3.get (k2.next + 2) = .cells [.map (some (k2.next + 1))] .rw := by rw [f3]; simp only [go_sem, simprocAttr]
  have n3 : k3.next = k2.next + 3 := by rw [f3]; simp
  clear f3
  have Q3 := Q2.trans q3
  have mp0 : MpAt k3 (k2.next + 1) (fun _ => False) := ⟨[], 0, g4, by simp, fun _ e => e.elim⟩
  have e1 := each1_ok (cm := k2.next + 2) (m := k2.next + 1) ta (iA.quiet Q3) g5 mp0 (fun _ e => e.elim)
  unfold ptN at e1
  refine cl_spec e1 (fun _ _ _ hc => absurd hc (by decide +kernel)) ?_
  rintro u k4 ⟨rfl, n4, f4, mp4⟩
  have hq4 : h.quiet k4 := ⟨by have := Q3.1; omega, fun j hj => (f4 j (by have := Q2.1; omega)).trans (Q3.2 j hj)⟩
  have g34 : k4.get k2.next = _ := (f4 _ (by omega)).trans g3
  have g54 : k4.get (k2.next + 2) = _ := (f4 _ (by omega)).trans g5
  have gp4 : ∀ o, (k4.push o).get k2.next = _ := fun o => (AHeap.get_push_lt _ _ (by omega)).trans g34
  simp only [go_sem, simprocAttr, gp4]
  refine cl_gen fun k5 f5 => ?_
  have q5 : k4.quiet k5 := by rw [f5]; simp only [go_sem, simprocAttr]
  have g6 : k5.get k4.next = .cells [.int .i64 0] .rw := by rw [f5]; simp only [go_sem, simprocAttr]
  have n5 : k5.next = k4.next + 1 := by rw [f5]; simp
  clear f5
  have g55 : k5.get (k2.next + 2) = _ := (q5.2 _ (by omega)).trans g54
  have hq5 := hq4.trans q5
  have mp5 : MpAt k5 (k2.next + 1) (· ∈ La) := by
    obtain ⟨es, ck, m1, m2, m3⟩ := mp4
    refine ⟨es, ck, (q5.2 _ (by omega)).trans m1, fun e he => ?_, fun j hj => m3 j (.inr hj)⟩
    obtain ⟨j, h1, h2, h3⟩ := m2 e he
    exact ⟨j, h1, h2, h3.elim (fun e => e.elim) fun e => e⟩
  have e2 := each2_ok (cm := k2.next + 2) (m := k2.next + 1) (cn := k4.next) (K := (· ∈ La)) (n := 0) tb (by omega) (iB.quiet hq5) (fun j hj => by have := iB.lt j hj; have := hq4.1; omega) (by omega) (fun e => by have := iA.lt _ e; have := hq4.1; omega) g55 mp5 (fun j hj => (iA.quiet hq5).rwk hj) g6
  unfold ptN at e2
  refine cl_spec e2 (fun _ _ _ hc => absurd hc (by decide +kernel)) ?_
  rintro u k6 ⟨rfl, n6, f6, g7⟩
  simp only [go_sem, simprocAttr, g7]
  exact ⟨by have := hq5.1; omega, fun j hj => (f6 j (by have := hq4.1; omega)).trans (hq5.2 j hj)⟩
theorem FoP.len (hf : FoP own h id ps ts) : ps.length = ts.length := by obtain ⟨_, v, _, _, c⟩ := hf; exact c.n
theorem FoP.nil0 (hf : FoP own h id ps ts) (h0 : ts[0]? = some .nil) : ps[0]? = some none := by
  have hl := hf.len
  obtain ⟨_, v, _, _, c⟩ := hf
  have l0 : 0 < ps.length := by rw [hl]; exact (List.getElem?_eq_some_iff.1 h0).1
  have e := c.t 0 .nil ps[0] h0 (List.getElem?_eq_getElem l0)
  rw [List.getElem?_eq_getElem l0]
  cases hq : ps[0] with
  | none => rfl
  | some q => rw [hq] at e; cases e

theorem fresh_law {xs : List Act} {v : Value} (hd : IsSl rAct (· < h.next) h xs v) :
    Does Try.prog 7 #[v] h (fun u _ => u = .bool true) := by
  obtain ⟨A, c, rfl⟩ := hd.shape
  refine spec_go mixed Try.func7 rfl Try.results7 (n := Try.f7.ntmps) (by kernel_rfl) (by simp) ?_
  simp only [go_sem, simprocAttr]
  refine cl_spec (newForest_ok (own := fun _ => 0)) (fun _ _ _ hc => absurd hc (by decide +kernel)) ?_
  rintro u k0 ⟨rfl, q0, hf⟩
  simp only [go_sem, simprocAttr]
  refine cl_spec (alive_ok k0) (fun _ _ _ hc => absurd hc (by decide +kernel)) ?_
  rintro u k ⟨rfl, hk⟩
  obtain rfl : k0 = k := hk.symm
  have hd0 : IsSl rAct (tg (bump (fun _ => 0) h 1) 0) k0 xs _ := hd.mono fun j hj hl => ⟨bump_lt hl, q0.2 j hl⟩
  obtain ⟨ps, hf0⟩ : ∃ ps, FoP (bump (fun _ => 0) h 1) k0 (h.next + 1) ps [.nil] := hf.fp
  clear hf
  generalize h.next + 1 = id at hf0
  generalize bump (fun _ => 0) h 1 = own at hd0 hf0
  simp only [go_sem, simprocAttr]
  refine cl_spec (short_ok hd0) (fun _ _ _ hc => absurd hc (by decide +kernel)) ?_
  rintro u k ⟨hs, hk⟩
  obtain rfl : k0 = k := hk.symm
  obtain ⟨A2, c2, rfl⟩ := hs.shape
  have hlen := hs.len
  generalize hys : xs.take (min xs.length 300) = ys at hs hlen
  have hy3 : ys.length ≤ 300 := by rw [← hys, List.length_take]; omega
  simp only [go_sem, simprocAttr]
  refine go_loop (fun z ρ k => ∃ (i : Nat) (own : Nat → Nat) (ps : List (Option Nat)) (ts : List T), i ≤ ys.length ∧ z = ys.length - i ∧ GF ts ∧ ts.length ≤ i + 1 ∧ ts[0]? = some .nil ∧ FoP own k id ps ts ∧ IsSl rAct (tg own 0) k ys (.slice A2 ys.length c2) ∧
    ρ 3 = .pointer (some ⟨id, 0, none⟩) ∧ ρ 17 = .slice A2 ys.length c2 ∧ ρ 18 = .int .i64 ys.length ∧ ρ 19 = .int .i64 i) ys.length
    ⟨0, own, ps, [.nil], by omega, by omega, GF.new, by simp, rfl, hf0, hs, by simp only [go_sem, simprocAttr]⟩ ?_
  rintro z ρ k ⟨i, own, ps, ts, hi, rfl, g, hl, ht0, hf, hs, r3, r17, r18, r19⟩
  simp only [go_sem, simprocAttr, r3, r17, r18, r19]
  refine cnd_decide (fun hx => ?_) (fun hx => ?_)
  · have h1 : i < ys.length := by omega
    have e9 : IntKind.i64.wrap ((i : Int) + 1) = ((i + 1 : Nat) : Int) := by rw [wi64] <;> omega
    obtain ⟨b, off, sp, cc, md, cs, a, hA, hbo, hg, hai, hR, hle, hdt⟩ := hs.at 6 rfl h1
    obtain ⟨rfl, ha0, ha1, ha2⟩ := rAct_iff.1 hR
    have r17' : ρ 17 = .slice (some ⟨b, off, sp⟩) ys.length c2 := by rw [r17, hA]
    unfold Act.cs at hdt
    simp only [go_sem, simprocAttr, r3, r17', r18, r19, h1, hg, hle, hdt]
    refine cl_gen fun k2 e2 => ?_
    have q2 : k.quiet k2 := by rw [e2]; simp only [go_sem, simprocAttr]
    have g2 : k2.get k.next = .cells a.cs .rw := by rw [e2]; simp only [go_sem, simprocAttr, Act.cs]
    have n2 : k2.next = k.next + 1 := by rw [e2]; simp
    clear e2
    unfold Act.cs at g2
    have hd := does_p (hf.quiet q2 0) g (by omega) (by rw [u8_max] at ha0; omega) ha1 ha2
    unfold Act.cs at hd
    have on2 : bump own k 0 k.next = 0 := bump_ge (Nat.le_refl _)
    refine cl_spec hd (fun _ _ _ hc => absurd hc (by decide +kernel)) ?_
    rintro u k3 ⟨rfl, own3, kp3, hh⟩
    have hs3 := kp3.sl (s := 0) (by decide) (hs.mono (quiet_other q2))
    have g3 : k3.get k.next = _ := ((kp3.2 k.next (by omega)).2 (by rw [on2]; decide)).trans g2
    have l3 : k.next < k3.next := by have := kp3.1; omega
    have gg := F.does_gf g a
    rcases hh with ⟨he, hR, t, pa, p, La, f, hti, hpa, iA, hf3, eF, fa, fr⟩ | ⟨he, e, hf3⟩
    · rw [eF] at gg
      have gt : GT f.er := gg.1.2 _ (by simp)
      have gta : GT t := g.2 t (List.mem_of_getElem? hti)
      have hsz := gt.okT.2
      have hsa := gta.okT.2
      have dle := f.er.depth_le
      have dla := t.depth_le
      have hn : (F.does ts a).1.1 = ts.length := by rw [eF]
      have ht0' : (ts ++ [f.er])[0]? = some .nil := by
        have : 0 < ts.length := (List.getElem?_eq_some_iff.1 ht0).1
        rw [List.getElem?_append_left this]; exact ht0
      have hne : ts ++ [f.er] ≠ [] := by simp
      have hRt : a.root.toNat < ts.length := by unfold Has at hR; omega
      have hR' : Has (ts ++ [f.er]) a.root := by unfold Has at *; simp; omega
      have hti' : (ts ++ [f.er])[a.root.toNat]? = some t := by rw [List.getElem?_append_left hRt]; exact hti
      have hpl : ps.length = ts.length := by have := hf3.len; simp at this; omega
      have hpa' : (ps ++ [p])[a.root.toNat]? = some pa := by rw [List.getElem?_append_left (by omega)]; exact hpa
      have hpn' : (ps ++ [p])[((ts.length : Nat) : Int).toNat]? = some p := by rw [Int.toNat_natCast, ← hpl]; simp
      obtain ⟨Lb, iB, _⟩ := fa.tr.ids
      have lb := iB.len
      have hH0 : Has (ts ++ [f.er]) 0 := ⟨Int.le_refl _, by rw [List.length_append, List.length_singleton]; omega⟩
      have hp0 : (ps ++ [p])[(0 : Int).toNat]? = some none := hf3.nil0 ht0'
      have cnt := FAt.count (· ∈ La) fa iB
      have cle : (Lb.filter fun j => !decide (j ∈ La)).length ≤ Lb.length := List.length_filter_le _ _
      have i0 : ∀ k : AHeap, IdAt k .nil (.pointer ((none : Option Nat).map fun id => ⟨id, 0, none⟩)) [] := fun k => ⟨rfl, rfl⟩
      have self : (Lb.filter fun j => !decide (j ∈ Lb)) = [] := by rw [List.filter_eq_nil_iff]; intro j hj; simp [hj]
      have all : (Lb.filter fun j => !decide (j ∈ ([] : List Nat))) = Lb := by rw [List.filter_eq_self]; intro j hj; rfl
      have hD : ∀ {k : AHeap} {own : Nat → Nat}, FoP own k id (ps ++ [p]) (ts ++ [f.er]) → Does Try.prog 13 #[.pointer (some ⟨id, 0, none⟩), .int .i64 ts.length] k (fun u h' => u = .int .i64 f.er.depth ∧ k.quiet h') := fun {k own} hf => (depthF_ok hf.fo (by simp)).mono fun u h' ⟨q, hh⟩ => by
        rcases hh with ⟨t', _, h2, rfl⟩ | ⟨h1, _⟩
        · rw [last_at] at h2; cases h2; exact ⟨rfl, q⟩
        · exact absurd has_last h1
      have hDa : ∀ {k : AHeap} {own : Nat → Nat}, FoP own k id (ps ++ [p]) (ts ++ [f.er]) → Does Try.prog 13 #[.pointer (some ⟨id, 0, none⟩), .int .i64 a.root] k (fun u h' => u = .int .i64 t.depth ∧ k.quiet h') := fun {k own} hf => (depthF_ok hf.fo (by simp)).mono fun u h' ⟨q, hh⟩ => by
        rcases hh with ⟨t', _, h2, rfl⟩ | ⟨h1, _⟩
        · rw [hti'] at h2; cases h2; exact ⟨rfl, q⟩
        · exact absurd hR' h1
      have hZ : ∀ {k : AHeap} {own : Nat → Nat}, FoP own k id (ps ++ [p]) (ts ++ [f.er]) → Does Try.prog 19 #[.pointer (some ⟨id, 0, none⟩), .int .i64 ts.length] k (fun u h' => u = .int .i64 f.er.size ∧ k.quiet h') := fun {k own} hf => (sizeF_ok hf.fo (by simp)).mono fun u h' ⟨q, hh⟩ => by
        rcases hh with ⟨t', _, h2, rfl⟩ | ⟨h1, _⟩
        · rw [last_at] at h2; cases h2; exact ⟨rfl, q⟩
        · exact absurd has_last h1
      simp only [go_sem, simprocAttr, he, hn, r3, g3]
      refine cl_spec (fresh_p hf3 hne hR' has_last hpa' hpn' iA iB (by omega)) (fun _ _ _ hc => absurd hc (by decide +kernel)) ?_
      rintro u k4 ⟨rfl, q4⟩
      generalize (Lb.filter fun j => !decide (j ∈ La)).length = C at cnt cle
      have c1 : ¬ (C : Int) < 0 := by omega
      simp only [go_sem, simprocAttr, decide_eq_false c1, r3]
      refine cl_spec (hZ (hf3.quiet q4 0)) (fun _ _ _ hc => absurd hc (by decide +kernel)) ?_
      rintro u k5 ⟨rfl, q5⟩
      have c2 : ¬ f.er.size < C := by omega
      have Q5 := q4.trans q5
      have g5 : k5.get k.next = _ := (Q5.2 _ l3).trans g3
      simp only [go_sem, simprocAttr, decide_eq_false c2, r3, g5]
      refine cl_spec (hDa (hf3.quiet Q5 0)) (fun _ _ _ hc => absurd hc (by decide +kernel)) ?_
      rintro u k6 ⟨rfl, q6⟩
      simp only [go_sem, simprocAttr, r3]
      refine cl_spec (hD (hf3.quiet (Q5.trans q6) 0)) (fun _ _ _ hc => absurd hc (by decide +kernel)) ?_
      rintro u k7 ⟨rfl, q7⟩
      have Q7 := Q5.trans (q6.trans q7)
      rw [← f.er_depth] at fr
      have w1 : IntKind.i64.wrap ((t.depth : Int) + f.er.depth) = (t.depth : Int) + f.er.depth := by rw [wi64] <;> omega
      have w2 : IntKind.i64.wrap ((t.depth : Int) + f.er.depth + 2) = (t.depth : Int) + f.er.depth + 2 := by rw [wi64] <;> omega
      have w3 : IntKind.i64.wrap (16 * ((t.depth : Int) + f.er.depth + 2)) = 16 * ((t.depth : Int) + f.er.depth + 2) := by rw [wi64] <;> omega
      have c3 : ¬ 16 * ((t.depth : Int) + f.er.depth + 2) < C := by omega
      simp only [go_sem, simprocAttr, w1, w2, w3, decide_eq_false c3, r3]
      refine cl_spec (fresh_p (hf3.quiet Q7 0) hne has_last has_last hpn' hpn' (iB.quiet Q7) (iB.quiet Q7) (by omega)) (fun _ _ _ hc => absurd hc (by decide +kernel)) ?_
      rintro u k8 ⟨rfl, q8⟩
      rw [self]
      simp only [go_sem, simprocAttr, r3]
      have Q8 := Q7.trans q8
      refine cl_spec (fresh_p (hf3.quiet Q8 0) hne hH0 has_last hp0 hpn' (i0 _) (iB.quiet Q8) (by omega)) (fun _ _ _ hc => absurd hc (by decide +kernel)) ?_
      rintro u k9 ⟨rfl, q9⟩
      rw [all, lb]
      simp only [go_sem, simprocAttr, r3]
      have Q9 := Q8.trans q9
      refine cl_spec (hZ (hf3.quiet Q9 0)) (fun _ _ _ hc => absurd hc (by decide +kernel)) ?_
      rintro u k10 ⟨rfl, q10⟩
      have Q := Q9.trans q10
      simp only [go_sem, simprocAttr, r19, e9]
      exact Hold.mk ⟨ys.length - (i + 1), by omega, i + 1, _, _, _, by omega, rfl, gg.1, by simp; omega, ht0', hf3.quiet Q 0, hs3.mono (quiet_other Q), by simp only [go_sem, simprocAttr, r3, r17, r18]⟩
    · have he' : ((F.does ts a).1.2 = 0) = False := eq_false he
      simp only [go_sem, simprocAttr, he', r19, e9]
      exact Hold.mk ⟨ys.length - (i + 1), by omega, i + 1, own3, ps, ts, by omega, rfl, g, by omega, ht0, hf3, hs3, by simp only [go_sem, simprocAttr, r3, r17, r18]⟩
  · simp only [go_sem, simprocAttr]
end
end Go.Proofs.Ytfdbadpiklmbaaa
