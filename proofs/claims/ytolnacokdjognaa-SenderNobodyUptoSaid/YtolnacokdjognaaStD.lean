/- stream: building streams, and their ops. -/
import Derived.Test.YtolnacokdjognaaStC
set_option linter.unusedSimpArgs false
set_option linter.unusedVariables false
set_option linter.unnecessarySimpa false
set_option maxRecDepth 100000
namespace Go.Proofs.Ytolnacokdjognaa
open Go.AM

theorem IsSl.appx {α : Type} {r : Rep α} {S : Nat → Prop} {h : AHeap} {xs : List α} {b o n bytes : Nat} (hs : IsSl r S h xs (.slice (some ⟨b, o, none⟩) n n)) (sz : Nat) (hsz : r.sz = sz) {y : α} {cs : List Value} (hy : r.R S h y cs)
    (hb : (n + 1) * bytes ≤ 140737488355328) (h62 : n + 1 ≤ 281474976710656) : ∃ v' h', aappend h sz bytes (.slice (some ⟨b, o, none⟩) n n) 1 cs = some (v', h') ∧ Lst r h.next S h' (xs ++ [y]) v' ∧ h.quiet h' := by
  have hl := hs.len
  obtain ⟨css, e, ha⟩ := hs.acells sz hsz
  have q : h.quiet (h.push (.cells (css.flatten ++ cs) (.tail sz))) := .push _ _
  refine ⟨.slice (some ⟨h.next, 0, some sz⟩) (n + 1) (n + 1), h.push (.cells (css.flatten ++ cs) (.tail sz)), by rw [aappend_x, if_neg (by omega), if_pos ⟨hb, by omega⟩, e, appNew_some], ⟨css ++ [cs], ?_, by simp; omega, .inr ⟨h.next, by rw [List.length_append, ← hl.1, hsz]; rfl, Nat.le_refl _, by rw [List.flatten_append]; simp [hsz]⟩⟩, q⟩
  refine (ha.append (.cons hy .nil)).moves fun j hj hl => ⟨⟨hj, ?_⟩, q.2 j hl⟩
  simp only [blk, ne_eq, Option.some.injEq]; omega
def recO (o : Bop) : Rec := ⟨if o.kd = 1 then 2 else if o.kd = 2 then 3 else 0, 0, 0, 0, 0, o.off, o.ln, o.data⟩
def tailN (n : Nat) : Rec := ⟨4, 0, 0, 0, 0, 0, n, []⟩
def buildL (hd : Rec) (ops : List Bop) : List Rec := hd :: (ops.map recO ++ [tailN ops.length])
def bldE (hd : Rec) (ops : List Bop) : Int := if hd.kd ≠ 1 ∨ ¬ hd.may then 1 else checkN (buildL hd ops)
section
variable {h k : AHeap} {S S' Z : Nat → Prop} {v w : Value}
/-- A list that grows: as a literal first. -/
def Acc (lo : Nat) (k : AHeap) (xs : List Rec) (v : Value) : Prop := Lst rRec lo (fun _ => True) k xs v ∨ ∃ id n, v = .slice (some ⟨id, 0, none⟩) n n ∧ lo ≤ id ∧ IsSl rRec (fun _ => True) k xs v
theorem Acc.quiet {lo : Nat} {k' : AHeap} {xs : List Rec} (a : Acc lo k xs v) (q : k.quiet k') : Acc lo k' xs v := by
  rcases a with a | ⟨id, n, e, h1, h2⟩
  · exact .inl (a.quiet q)
  · exact .inr ⟨id, n, e, h1, h2.quiet q⟩
theorem Acc.isSl {lo : Nat} {xs : List Rec} (a : Acc lo k xs v) : IsSl rRec (fun _ => True) k xs v := by
  rcases a with a | ⟨id, n, e, h1, h2⟩
  · exact a.isSl (fun _ _ _ => trivial) (fun _ _ => trivial)
  · exact h2
theorem Acc.app {lo : Nat} {k0 : AHeap} {xs : List Rec} {y : Rec} {cs : List Value} (a : Acc lo k0 xs v) (q : k0.quiet k) (hlo : lo ≤ k0.next) (hy : rRec.R (fun j => k0.next ≤ j) k y cs) (hn : xs.length ≤ 1048577) :
    ∃ v' k', aappend k 8 80 v 1 cs = some (v', k') ∧ Acc lo k' (xs ++ [y]) v' ∧ Fw (fun j => lo ≤ j ∧ j < k0.next) k k' := by
  rcases a with a | ⟨id, n, rfl, h1, h2⟩
  · obtain ⟨v', k', e, hl, f, _⟩ := (a.quiet q).app1 (y := y) (cs := cs) (bytes := 80) 8 rfl (rRec.weaken hy fun j hj => ⟨trivial, fun e => by have := (a.blk_ge e).2; omega⟩) (by omega) (by omega) (Nat.le_trans hlo q.1)
    exact ⟨v', k', e, .inl hl, f.mono fun j _ e => a.blk_ge e⟩
  · have hln := h2.len
    obtain ⟨v', k', e, hl, q'⟩ := IsSl.appx (h2.quiet q) (y := y) (cs := cs) (bytes := 80) 8 rfl (rRec.weaken hy fun j hj => trivial) (by omega) (by omega)
    exact ⟨v', k', e, .inl (hl.mono (Nat.le_trans hlo q.1) (Nat.le_refl _) (fun j hj _ _ => ⟨hj, rfl⟩) (fun _ _ _ => rfl)), .of_quiet q'⟩
theorem recO_inI {o : Bop} (hi : o.inI) : (recO o).inI := by
  refine ⟨?_, ?_, ?_, ?_, ?_, hi.2.1, hi.2.2⟩
  · unfold recO inJ; simp only; split
    · omega
    · split <;> omega
  all_goals (unfold recO inJ; simp)
theorem Build_ok {hd : Rec} {ops : List Bop} (hi : hd.inI) (hv : Words (· < h.next) h hd.data v) (hs : IsSl rBop (· < h.next) h ops w) (hn : ops.length ≤ 1048576) (hb : ∀ o ∈ ops, o.data.length ≤ 1048576) (hb0 : hd.data.length ≤ 1048576) :
    Does Try.prog 15 #[.agg (hd.cs v).toArray, w] h (fun u h' => h.quiet h' ∧ ∃ x, u = .tuple #[x, .int .i64 (bldE hd ops)] ∧ IsSl rRec (fun _ => True) h' (if bldE hd ops = 0 then buildL hd ops else []) x) := by
  obtain ⟨a, c, rfl⟩ := hv.shape
  obtain ⟨a2, c3, rfl⟩ := hs.shape
  have hsl := hs.len
  refine spec_go mixed Try.func15 rfl Try.results15 (n := Try.f15.ntmps) (by kernel_rfl) (by simp) ?_
  simp only [go_sem, simprocAttr, rc_len, rc_one, rc_take, rc_put]
  have q0 : h.quiet (h.push (.cells (hd.cs (.slice a hd.data.length c)) .rw)) := .push _ _
  have g0 : (h.push (.cells (hd.cs (.slice a hd.data.length c)) .rw)).get h.next = .cells (hd.cs (.slice a hd.data.length c)) .rw := by simp
  have n0 : (h.push (.cells (hd.cs (.slice a hd.data.length c)) .rw)).next = h.next + 1 := by simp
  generalize h.push (.cells (hd.cs (.slice a hd.data.length c)) .rw) = k0 at q0 g0 n0
  have hv0 := hv.quiet q0
  simp only [go_sem, simprocAttr, g0, rc_0]
  unfold bldE
  by_cases c1 : hd.kd = 1
  · simp only [go_sem, simprocAttr, c1, eq_self, decide_true, g0, rc_len, rc_one, rc_take, rc_put]
    refine cl_spec (May_ok hv0) (fun u h' hp _ => hp.2) ?_
    rintro u k1 ⟨rfl, q1⟩
    have g1 := (q1.2 _ (by omega)).trans g0
    by_cases c2 : hd.may
    · rw [if_neg (fun e => e c2)]
      simp only [go_sem, simprocAttr, c2, decide_true, g1, rc_len, rc_one, rc_take, rc_put]
      have q2 : k1.quiet (k1.push (.cells (hd.cs (.slice a hd.data.length c)) .rw)) := .push _ _
      have hl0 : Acc k1.next (k1.push (.cells (hd.cs (.slice a hd.data.length c)) .rw)) [hd] (.slice (some ⟨k1.next, 0, none⟩) 1 1) :=
        .inr ⟨_, _, rfl, Nat.le_refl _, .fresh (css := [hd.cs (.slice a hd.data.length c)]) (.cons (rRec_iff.2 ⟨_, rfl, hi, (hv0.quiet (q1.trans q2)).weaken fun _ _ => trivial⟩) .nil) rfl (by decide) trivial (AHeap.get_push_self _ _) (by rw [List.flatten_cons, List.flatten_nil, List.append_nil])⟩
      generalize k1.push (.cells (hd.cs (.slice a hd.data.length c)) .rw) = k2 at q2 hl0
      have q02 := (q0.trans q1).trans q2
      refine go_cutb (fun ρ k => ∃ x, k1.quiet k ∧ Acc k1.next k (hd :: ops.map recO) x ∧ ρ 1 = .slice a2 ops.length c3 ∧ ρ 6 = x) ?_ ?_
      · refine go_loop (fun z ρ k => ∃ (i : Nat) (x : Value), i ≤ ops.length ∧ z = ops.length - i ∧ k1.quiet k ∧ Acc k1.next k (hd :: (ops.take i).map recO) x ∧ ρ 1 = .slice a2 ops.length c3 ∧ ρ 6 = x ∧ ρ 21 = .slice a2 ops.length c3 ∧ ρ 22 = .int .i64 ops.length ∧ ρ 23 = .int .i64 i) ops.length ⟨0, _, by omega, by omega, q2, hl0, by simp only [go_sem, simprocAttr]⟩ ?_
        rintro z ρ k ⟨i, x, hii, rfl, q, hacc, r1, r6, r21, r22, r23⟩
        simp only [go_sem, simprocAttr, r1, r6, r21, r22, r23]
        refine cnd_decide (fun hy => ?_) (fun hy => ?_)
        · have h1 : i < ops.length := by omega
          obtain ⟨b, off, sp, cc, md, o, lv, hA, _, hg, hoi, hlv, hob, hle, hdt⟩ := IsSl.atO (hs.quiet ((q0.trans q1).trans q)) h1
          obtain ⟨al, cl, rfl⟩ := hlv.shape
          have hox := hb o (List.mem_of_getElem? hoi)
          have e9 : IntKind.i64.wrap ((i : Int) + 1) = ((i + 1 : Nat) : Int) := by rw [wi64] <;> omega
          simp only [go_sem, simprocAttr, r1, r6, r21, r22, r23, h1, hA, hg, hle, hdt, bo_len, bo_one, bo_take, bo_put]
          have qb : k.quiet (k.push (.cells (o.cs (.slice al o.data.length cl)) .rw)) := .push _ _
          have gb : (k.push (.cells (o.cs (.slice al o.data.length cl)) .rw)).get k.next = .cells (o.cs (.slice al o.data.length cl)) .rw := by simp
          have nb : (k.push (.cells (o.cs (.slice al o.data.length cl)) .rw)).next = k.next + 1 := by simp
          generalize k.push (.cells (o.cs (.slice al o.data.length cl)) .rw) = kb at qb gb nb
          simp only [go_sem, simprocAttr, gb, bo_1, bo_2, bo_3]
          refine cl_spec (cloneW_ok (hlv.quiet qb) (by omega)) (fun u h' hp _ => hp.1) ?_
          rintro u k3 ⟨q3, hu⟩
          have gb3 := (q3.2 _ (by omega)).trans gb
          obtain ⟨au, cu, rfl, _⟩ := hu.len
          have hub := hu.isSl (S := (kb.next ≤ ·)) (fun _ e _ => e.elim) (fun _ e => e)
          have hkk3 : k.next < k3.next := AHeap.lt_of_alive k3 (by rw [gb3]; simp)
          have gb3p : ∀ o', (k3.push o').get k.next = .cells (o.cs (.slice al o.data.length cl)) .rw := fun o' => by rw [AHeap.get_push_lt _ _ hkk3]; exact gb3
          have hxn : (hd :: (ops.take i).map recO).length = i + 1 := by simp; omega
          obtain ⟨ax, nx, cx, rfl⟩ : ∃ ax nx cx, x = .slice ax nx cx := by obtain ⟨ax, cx, e⟩ := hacc.isSl.shape; exact ⟨ax, _, cx, e⟩
          have step : ∀ kd : Int, inJ kd → ∃ v' k', aappend ((k3.push (.cells [.int .i64 kd, .int .i64 0, .int .i64 0, .int .i64 0, .int .i64 0, .int .i64 o.off, .int .i64 o.ln, .slice au o.data.length cu] .rw)).push (.cells [.int .i64 kd, .int .i64 0, .int .i64 0, .int .i64 0, .int .i64 0, .int .i64 o.off, .int .i64 o.ln, .slice au o.data.length cu] .rw)) 8 80 (.slice ax nx cx) 1 [.int .i64 kd, .int .i64 0, .int .i64 0, .int .i64 0, .int .i64 0, .int .i64 o.off, .int .i64 o.ln, .slice au o.data.length cu] = some (v', k') ∧
              (∃ a n c, v' = .slice a n c) ∧ Acc k1.next k' ((hd :: (ops.take i).map recO) ++ [⟨kd, 0, 0, 0, 0, o.off, o.ln, o.data⟩]) v' ∧ k1.quiet k' := fun kd hkd => by
            have qq : k.quiet ((k3.push (.cells [.int .i64 kd, .int .i64 0, .int .i64 0, .int .i64 0, .int .i64 0, .int .i64 o.off, .int .i64 o.ln, .slice au o.data.length cu] .rw)).push (.cells [.int .i64 kd, .int .i64 0, .int .i64 0, .int .i64 0, .int .i64 0, .int .i64 o.off, .int .i64 o.ln, .slice au o.data.length cu] .rw)) := ((qb.trans q3).push' _).push' _
            have q33 : k3.quiet ((k3.push (.cells [.int .i64 kd, .int .i64 0, .int .i64 0, .int .i64 0, .int .i64 0, .int .i64 o.off, .int .i64 o.ln, .slice au o.data.length cu] .rw)).push (.cells [.int .i64 kd, .int .i64 0, .int .i64 0, .int .i64 0, .int .i64 0, .int .i64 o.off, .int .i64 o.ln, .slice au o.data.length cu] .rw)) := (AHeap.quiet.push _ _).push' _
            obtain ⟨v', k', e, ha, f⟩ := hacc.app qq q.1 (y := ⟨kd, 0, 0, 0, 0, o.off, o.ln, o.data⟩) (rRec_iff.2 ⟨_, rfl, ⟨hkd, by unfold inJ; simp, by unfold inJ; simp, by unfold inJ; simp, by unfold inJ; simp, hob.2.1, hob.2.2⟩, (hub.quiet q33).weaken fun j hj => by omega⟩) (by omega)
            obtain ⟨a', c', e'⟩ := ha.isSl.shape
            exact ⟨v', k', e, ⟨_, _, _, e'⟩, ha, Fw.behind (q.trans qq) f (fun j hj => hj.1)⟩
          have fin : ∀ kd, recO o = ⟨kd, 0, 0, 0, 0, o.off, o.ln, o.data⟩ → (hd :: (ops.take i).map recO) ++ [⟨kd, 0, 0, 0, 0, o.off, o.ln, o.data⟩] = hd :: (ops.take (i + 1)).map recO := fun kd e => by
            rw [List.take_add_one, hoi, ← e]; simp
          simp only [go_sem, simprocAttr, gb3p, bo_0]
          by_cases k1' : o.kd = 1
          · obtain ⟨v', k', e, ⟨a', n', c', rfl⟩, ha, q'⟩ := step 2 (by unfold inJ; omega)
            simp only [go_sem, simprocAttr, k1', eq_self, decide_true, r1, r6, r21, r22, r23, e, e9]
            rw [fin 2 (by unfold recO; rw [if_pos k1'])] at ha
            exact Hold.mk ⟨ops.length - (i + 1), by omega, i + 1, _, by omega, rfl, q', ha, by simp only [go_sem, simprocAttr, r1, r21, r22, hA]⟩
          · by_cases k2' : o.kd = 2
            · obtain ⟨v', k', e, ⟨a', n', c', rfl⟩, ha, q'⟩ := step 3 (by unfold inJ; omega)
              simp only [go_sem, simprocAttr, k1', k2', eq_self, decide_true, decide_false, r1, r6, r21, r22, r23, e, e9]
              rw [fin 3 (by unfold recO; rw [if_neg k1', if_pos k2'])] at ha
              exact Hold.mk ⟨ops.length - (i + 1), by omega, i + 1, _, by omega, rfl, q', ha, by simp only [go_sem, simprocAttr, r1, r21, r22, hA]⟩
            · obtain ⟨v', k', e, ⟨a', n', c', rfl⟩, ha, q'⟩ := step 0 (by unfold inJ; omega)
              simp only [go_sem, simprocAttr, k1', k2', decide_false, r1, r6, r21, r22, r23, e, e9]
              rw [fin 0 (by unfold recO; rw [if_neg k1', if_neg k2'])] at ha
              exact Hold.mk ⟨ops.length - (i + 1), by omega, i + 1, _, by omega, rfl, q', ha, by simp only [go_sem, simprocAttr, r1, r21, r22, hA]⟩
        · have : i = ops.length := by omega
          subst this
          rw [List.take_length] at hacc
          simp only [go_sem, simprocAttr, r1, r6]
          exact Hold.mk ⟨x, q, hacc, r1, r6⟩
      · rintro ρ k ⟨x, q, hacc, r1, r6⟩
        have hxn : (hd :: ops.map recO).length = ops.length + 1 := by simp
        obtain ⟨ax, nx, cx, rfl⟩ : ∃ ax nx cx, x = .slice ax nx cx := by obtain ⟨ax, cx, e⟩ := hacc.isSl.shape; exact ⟨ax, _, cx, e⟩
        have qq : k.quiet (k.push (.cells [.int .i64 4, .int .i64 0, .int .i64 0, .int .i64 0, .int .i64 0, .int .i64 0, .int .i64 ops.length, .slice none 0 0] .rw)) := .push _ _
        obtain ⟨v', k', e, ha, f⟩ := hacc.app qq q.1 (y := tailN ops.length) (cs := [.int .i64 4, .int .i64 0, .int .i64 0, .int .i64 0, .int .i64 0, .int .i64 0, .int .i64 ops.length, .slice none 0 0]) (rRec_iff.2 ⟨_, rfl, ⟨by unfold inJ tailN; simp, by unfold inJ tailN; simp, by unfold inJ tailN; simp, by unfold inJ tailN; simp, by unfold inJ tailN; simp, by unfold inJ tailN; simp, by unfold inJ tailN; simp; omega⟩, .nil _ _ _⟩) (by omega)
        rw [List.cons_append, show hd :: (ops.map recO ++ [tailN ops.length]) = buildL hd ops from rfl] at ha
        obtain ⟨a', c', rfl⟩ := ha.isSl.shape
        have q' : h.quiet k' := Fw.behind (((q0.trans q1).trans q).trans qq) f (fun j hj => by have := q0.1; have := q1.1; omega)
        simp only [go_sem, simprocAttr, r1, r6, e]
        refine cl_spec (Check_ok ha.isSl (fun r hr => ?_)) (fun _ _ _ hc => absurd hc (by decide +kernel)) ?_
        · unfold buildL at hr
          rcases List.mem_cons.1 hr with rfl | hr
          · omega
          · rcases List.mem_append.1 hr with hr | hr
            · obtain ⟨o, ho, rfl⟩ := List.mem_map.1 hr
              have := hb o ho
              show o.data.length ≤ _
              omega
            · obtain rfl : r = tailN ops.length := by simpa using hr
              show (0 : Nat) ≤ _; omega
        rintro u k5 ⟨q5, rfl⟩
        by_cases ce : checkN (buildL hd ops) = 0
        · simp only [go_sem, simprocAttr, ce, eq_self, decide_true, decide_false, if_true]
          exact ⟨q'.trans q5, _, rfl, ha.isSl.quiet q5⟩
        · simp only [go_sem, simprocAttr, ce, decide_true, if_false]
          exact ⟨q'.trans q5, _, rfl, .nil _ _ _⟩
    · simp only [go_sem, simprocAttr, c2, decide_false]
      exact ⟨q0.trans q1, _, rfl, .nil _ _ _⟩
  · simp only [go_sem, simprocAttr, c1, decide_false]
    exact ⟨q0, _, rfl, .nil _ _ _⟩
end
end Go.Proofs.Ytolnacokdjognaa
