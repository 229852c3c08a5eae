/- cow: the document's lists, and its forest. -/
import Derived.Test.YtfdbadpiklmbaaaCoY
set_option linter.unusedSimpArgs false
set_option linter.unusedVariables false
set_option linter.unnecessarySimpa false
set_option maxRecDepth 100000
namespace Go.Proofs.Ytfdbadpiklmbaaa
open Go.AM

section
variable {own own' own'' : Nat → Nat} {h h' h'' h0 : AHeap} {S S' Z : Nat → Prop} {id : Nat} {ts : List T} {v lv : Value} {vs : List Value}
theorem rpart_ok {xs : List Ext} {f t : Int} (hx : IsSl rExt S h xs v) (hok : ∀ x ∈ xs, x.ok) (hl : xs.length ≤ 1099511627776) (hf : 0 ≤ f ∧ f ≤ 1099511627776) (ht : 0 ≤ t ∧ t ≤ 1099511627776) : Does Try.prog 46 #[v, .int .i64 f, .int .i64 t] h
    (fun u h' => OwnL rExt (h.next ≤ ·) h' (partL f t xs) u ∧ h.quiet h') := by
  obtain ⟨a, c, rfl⟩ := hx.shape
  have hlen := hx.len
  refine spec_go mixed Try.func46 rfl Try.results46 (n := Try.f46.ntmps) (by kernel_rfl) (by simp) ?_
  simp only [go_sem, simprocAttr]
  refine go_loop (fun z ρ k => ∃ (i : Nat) (w : Value), i ≤ xs.length ∧ z = xs.length - i ∧ OwnL rExt (h.next ≤ ·) k (partL f t (xs.take i)) w ∧ h.quiet k ∧
    ρ 0 = .slice a xs.length c ∧ ρ 1 = .int .i64 f ∧ ρ 2 = .int .i64 t ∧ ρ 7 = w ∧ ρ 8 = .int .i64 i) xs.length ⟨0, _, by omega, by omega, .nil _ _ _, .refl _, by simp only [go_sem, simprocAttr]⟩ ?_
  rintro z ρ k ⟨i, w, hi, rfl, hw, q, r0, r1, r2, r7, r8⟩
  simp only [go_sem, simprocAttr, r0, r1, r2, r7, r8]
  refine cnd_decide (fun hy => ?_) (fun hy => ?_)
  · have h1 : i < xs.length := by omega
    have e9 : IntKind.i64.wrap ((i : Int) + 1) = ((i + 1 : Nat) : Int) := by rw [wi64] <;> omega
    obtain ⟨b, off, sp, cc, md, x, hA, _, hg, hxi, hxx, hle, hdt⟩ := IsSl.atX (hx.quiet q) h1
    have ox := hok x (List.mem_of_getElem? hxi)
    have ox' := ox
    unfold Ext.ok at ox'
    have et : partL f t (xs.take (i + 1)) = partL f t (xs.take i) ++ (if x.lies f t then [x.clip f t] else []) := by
      rw [List.take_add_one, hxi, partL_append]; simp [partL]
    have hpl : (partL f t (xs.take i)).length ≤ i := by
      have : ∀ l : List Ext, (partL f t l).length ≤ l.length := fun l => by
        induction l with
        | nil => exact Nat.le_refl _
        | cons y l ih => rw [partL_cons, List.length_append, List.length_cons]; have := ite_len (p := y.lies f t) (l := [y.clip f t]) (n := 1) (Nat.le_refl 1); omega
      exact Nat.le_trans (this _) (by rw [List.length_take]; omega)
    unfold Ext.cs at hdt
    have e1 : IntKind.i64.wrap (x.off + x.len) = x.off + x.len := by rw [wi64] <;> omega
    have m1 : max x.off f = max f x.off := Int.max_comm _ _
    have m2 : min (x.off + x.len) t = min t (x.off + x.len) := Int.min_comm _ _
    have e2 : IntKind.i64.wrap (min t (x.off + x.len) - max f x.off) = min t (x.off + x.len) - max f x.off := by rw [wi64] <;> omega
    have e3 : IntKind.i64.wrap (x.phys + max f x.off) = x.phys + max f x.off := by rw [wi64] <;> omega
    have e4 : IntKind.i64.wrap (x.phys + max f x.off - x.off) = x.phys + max f x.off - x.off := by rw [wi64] <;> omega
    simp only [go_sem, simprocAttr, r0, r1, r2, r7, r8, hA, hg, hle, hdt, h1, e1, m1, m2]
    refine cnd_gen fun k1 g1 => ?_
    have q1 : k.quiet k1 := by rw [g1]; simp only [go_sem, simprocAttr]
    have gx : k1.get k.next = .cells x.cs .rw := by rw [g1]; simp only [go_sem, simprocAttr, Ext.cs]
    clear g1
    have hw1 := hw.mono q1.1 (fun j hj hl => ⟨hj, q1.2 j hl⟩)
    obtain ⟨aw, cw, rfl⟩ := hw1.sl.shape
    refine cnd_decide (fun hc => ?_) (fun hc => ?_)
    · have hlies : x.lies f t := hc
      obtain ⟨w', k2, e6, o6, f6, _, a6, n6, c6, rfl⟩ := hw1.app2 (bytes := 32) (y := x.clip f t) (cs := (x.clip f t).cs) 4 rfl (fun _ => rExt_iff.2 ⟨rfl, (Ext.ok_clip ox hlies).inI⟩) (by omega) (by omega)
      unfold Ext.cs at e6 gx
      unfold Ext.clip at e6
      dsimp only at e6
      simp only [go_sem, simprocAttr, r7, gx, e2, e3, e4, e6, r8, e9]
      refine Hold.mk ⟨xs.length - (i + 1), by omega, i + 1, .slice a6 n6 c6, by omega, rfl, ?_, Fw.behind (q.trans q1) f6 (fun j e => hw1.2 j e), by simp only [go_sem, simprocAttr, r0, r1, r2, hA]⟩
      rw [et, if_pos hlies]
      exact o6.weaken fun j hj => hj.elim (fun e => e) fun e => by have := q.1; have := q1.1; omega
    · have hlies : ¬ x.lies f t := hc
      simp only [go_sem, simprocAttr, r7, r8, e9]
      refine Hold.mk ⟨xs.length - (i + 1), by omega, i + 1, .slice aw (partL f t (xs.take i)).length cw, by omega, rfl, ?_, q.trans q1, by simp only [go_sem, simprocAttr, r0, r1, r2, r7, hA]⟩
      rw [et, if_neg hlies, List.append_nil]
      exact hw1
  · have hi' : i = xs.length := by omega
    subst hi'
    rw [List.take_length] at hw
    simp only [go_sem, simprocAttr, r7]
    exact ⟨hw, q⟩
theorem jstep_oks {out : List Ext} {y : Ext} (ho : ∀ x ∈ out, x.ok) (hy : y.ok) : ∀ x ∈ jstep out y, x.ok := by
  unfold jstep
  intro x hx
  split at hx
  · rename_i z hz
    split at hx
    · rename_i hm
      rcases List.mem_append.1 hx with hx | hx
      · exact ho x (List.dropLast_subset _ hx)
      · obtain rfl : x = _ := by simpa using hx
        exact Ext.ok_with (ho z (List.mem_of_getLast? hz)) hy hm
    · rcases List.mem_append.1 hx with hx | hx
      · exact ho x hx
      · obtain rfl : x = y := by simpa using hx
        exact hy
  · rcases List.mem_append.1 hx with hx | hx
    · exact ho x hx
    · obtain rfl : x = y := by simpa using hx
      exact hy
theorem jstep_len (out : List Ext) (y : Ext) : (jstep out y).length ≤ out.length + 1 := by
  unfold jstep
  split
  · split
    · rename_i hz _; have := List.length_pos_iff.2 (List.ne_nil_of_mem (List.mem_of_getLast? hz)); simp only [List.length_append, List.length_dropLast, List.length_cons, List.length_nil]; omega
    · simp
  · simp
theorem jfold_oks : ∀ (l out : List Ext), (∀ x ∈ out, x.ok) → (∀ x ∈ l, x.ok) → (∀ x ∈ l.foldl jstep out, x.ok) ∧ (l.foldl jstep out).length ≤ out.length + l.length
  | [], out, ho, _ => ⟨ho, by simp⟩
  | y :: l, out, ho, hl => by
    obtain ⟨a, b⟩ := jfold_oks l (jstep out y) (jstep_oks ho (hl y (by simp))) fun x hx => hl x (by simp [hx])
    have := jstep_len out y
    exact ⟨a, by simp only [List.foldl_cons, List.length_cons]; omega⟩
theorem rjoin_ok {xs : List Ext} (hx : IsSl rExt S h xs v) (hok : ∀ x ∈ xs, x.ok) (hl : xs.length ≤ 1099511627776) : Does Try.prog 69 #[v] h
    (fun u h' => OwnL rExt (h.next ≤ ·) h' (joinL xs) u ∧ h.quiet h') := by
  obtain ⟨a, c, rfl⟩ := hx.shape
  have hlen := hx.len
  refine spec_go mixed Try.func69 rfl Try.results69 (n := Try.f69.ntmps) (by kernel_rfl) (by simp) ?_
  simp only [go_sem, simprocAttr]
  refine go_loop (fun z ρ k => ∃ (i : Nat) (w : Value), i ≤ xs.length ∧ z = xs.length - i ∧ OwnL rExt (h.next ≤ ·) k ((xs.take i).foldl jstep []) w ∧ h.quiet k ∧
    ρ 0 = .slice a xs.length c ∧ ρ 3 = w ∧ ρ 4 = .int .i64 i) xs.length ⟨0, _, by omega, by omega, .nil _ _ _, .refl _, by simp only [go_sem, simprocAttr]⟩ ?_
  rintro z ρ k ⟨i, w, hi, rfl, hw, q, r0, r3, r4⟩
  simp only [go_sem, simprocAttr, r0, r3, r4]
  refine cnd_decide (fun hy => ?_) (fun hy => ?_)
  · have h1 : i < xs.length := by omega
    have e9 : IntKind.i64.wrap ((i : Int) + 1) = ((i + 1 : Nat) : Int) := by rw [wi64] <;> omega
    obtain ⟨b, off, sp, cc, md, y, hA, _, hg, hyi, hyy, hle, hdt⟩ := IsSl.atX (hx.quiet q) h1
    have oy := hok y (List.mem_of_getElem? hyi)
    have hb : b < k.next := AHeap.lt_of_alive k (by rw [hg]; simp)
    have et : (xs.take (i + 1)).foldl jstep [] = jstep ((xs.take i).foldl jstep []) y := by rw [List.take_add_one, hyi, List.foldl_append]; rfl
    obtain ⟨oks, ol⟩ := jfold_oks (xs.take i) [] (by simp) fun x hx => hok x (List.mem_of_mem_take hx)
    have ol : ((xs.take i).foldl jstep []).length ≤ i := by rw [List.length_take] at ol; simp at ol; omega
    generalize (xs.take i).foldl jstep [] = out at hw et oks ol
    obtain ⟨aw, cw, rfl⟩ := hw.sl.shape
    have d1 : cc[off + i * 4 + 1]? = some (.int .i64 y.len) := seg_get hdt (k := 1) (by omega)
    have hdt' := hdt
    unfold Ext.cs at hdt'
    -- it is put behind
    have new : ∀ {k1 : AHeap}, k.quiet k1 → jstep out y = out ++ [y] → ∃ w' k2 a6 n6 c6, aappend (k1.push (.cells y.cs .rw)) 4 32 (.slice aw out.length cw) 1 y.cs = some (w', k2) ∧ OwnL rExt (h.next ≤ ·) k2 (jstep out y) w' ∧ h.quiet k2 ∧ w' = .slice a6 n6 c6 := fun {k1} q1 ej => by
      have hw1 := hw.mono q1.1 (fun j hj hl => ⟨hj, q1.2 j hl⟩)
      obtain ⟨w', k2, e6, o6, f6, _, a6, n6, c6, e⟩ := hw1.app2 (bytes := 32) (y := y) (cs := y.cs) 4 rfl (fun _ => rExt_iff.2 ⟨rfl, oy.inI⟩) (by omega) (by omega)
      refine ⟨w', k2, a6, n6, c6, e6, ?_, Fw.behind (q.trans q1) f6 (fun j e => hw1.2 j e), e⟩
      rw [ej]
      exact o6.weaken fun j hj => hj.elim (fun e => e) fun e => by have := q.1; have := q1.1; omega
    rcases List.eq_nil_or_concat out with rfl | ⟨l', z0, ez⟩
    · have hz : ¬ (0 : Int) < ((([] : List Ext).length : Nat) : Int) := by simp
      obtain ⟨w', k2, a6, n6, c6, e6, o6, q6, rfl⟩ := new (.refl _) rfl
      unfold Ext.cs at e6
      simp only [go_sem, simprocAttr, r0, r3, r4, List.length_nil, show ((0 : Nat) : Int) = 0 from rfl, Int.lt_irrefl, decide_false, hA, hg, hle, hdt', h1]
      rw [List.length_nil] at e6
      simp only [go_sem, simprocAttr, e6, r4, e9]
      exact Hold.mk ⟨xs.length - (i + 1), by omega, i + 1, .slice a6 n6 c6, by omega, rfl, by rw [et]; exact o6, q6, by simp only [go_sem, simprocAttr, r0, hA]⟩
    · rw [List.concat_eq_append] at ez
      have hm1 : out.length = l'.length + 1 := by rw [ez]; simp
      have hz : (0 : Int) < ((out.length : Nat) : Int) := by omega
      have e7 : IntKind.i64.wrap (((out.length : Nat) : Int) - 1) = (l'.length : Int) := by rw [wi64] <;> omega
      have hlm : l'.length < out.length := by omega
      have hzi : out[l'.length]? = some z0 := by rw [ez]; simp
      have oz := oks z0 (List.mem_of_getElem? hzi)
      obtain ⟨b2, off2, sp2, cc2, md2, z', hA2, _, hg2, hzi', _, hle2, hdt2⟩ := IsSl.atX hw.sl hlm
      rw [hzi] at hzi'
      obtain rfl : z0 = z' := Option.some.inj hzi'
      have hdt2' := hdt2
      unfold Ext.cs at hdt2'
      simp only [go_sem, simprocAttr, r0, r3, r4, decide_eq_true hz, e7, hA, hg, hle, hdt', h1, hA2, hg2, hle2, hdt2', hlm]
      refine cl_spec (rone_ok oz oy) (fun _ _ _ hc => absurd hc (by decide +kernel)) ?_
      rintro u k1 ⟨rfl, q1⟩
      by_cases hm : z0.meets y
      · have ej : jstep out y = l' ++ [z0.with y] := by rw [ez]; exact jstep_one hm
        have hw1 := hw.mono q1.1 (fun j hj hl => ⟨hj, q1.2 j hl⟩)
        obtain ⟨ob, css, cs, x, hA3, _, hg3, hcss, hci, hxi, hR, _, hcl, hput⟩ := hw1.1.put 4 rfl hlm
        rw [hzi] at hxi
        obtain rfl : z0 = x := Option.some.inj hxi
        obtain ⟨rfl, _⟩ := rExt_iff.1 hR
        have hfl := flat_at hcss hci
        have f1 : css.flatten[l'.length * 4 + 1]? = some (.int .i64 z0.len) := by
          have := seg_get hfl (k := 1) (by omega)
          rw [this]; rfl
        have hb1 := (q1.2 b hb).trans hg
        have ew : IntKind.i64.wrap (z0.len + y.len) = z0.len + y.len := by
          unfold Ext.ok at oz oy; rw [wi64] <;> omega
        have hfs := flat_set (i := l'.length) (k := 1) (.int .i64 (z0.len + y.len)) hcss hci (by omega)
        have hfl2 : css.flatten.length = out.length * 4 := by rw [flat_length hcss, hcl]
        have hle3 : l'.length * 4 + 1 + 1 ≤ css.flatten.length := by omega
        have hew := hput (z0.with y) (z0.with y).cs (rExt_iff.2 ⟨rfl, (Ext.ok_with oz oy hm).inI⟩)
        have eset : out.set l'.length (z0.with y) = l' ++ [z0.with y] := by rw [ez]; simp
        have hob : ob < k1.next := AHeap.lt_of_alive k1 (by rw [hg3]; simp)
        have hobh : h.next ≤ ob := hw1.2 ob (by rw [hA3]; rfl)
        have r3' : ρ 3 = .slice (some ⟨ob, 0, some 4⟩) out.length cw := by rw [r3, hA3]
        simp only [go_sem, simprocAttr, decide_eq_true hm, r0, r3', r4, e7, hA, hb1, h1, d1, hg3, f1, hlm, ew, hle3, Nat.zero_add, e9]
        have ecs : z0.cs.set 1 (.int .i64 (z0.len + y.len)) = (z0.with y).cs := rfl
        rw [hfs, ecs]
        refine Hold.mk ⟨xs.length - (i + 1), by omega, i + 1, .slice (some ⟨ob, 0, some 4⟩) out.length cw, by omega, rfl, ?_, (q.trans q1).set' hobh _, by simp only [go_sem, simprocAttr, r0, r3', hA]⟩
        rw [et, ej, ← eset]
        subst hA3
        exact ⟨hew, fun j hj => by cases hj; exact hobh⟩
      · have ej : jstep out y = out ++ [y] := by
          unfold jstep
          rw [ez, List.getLast?_concat]
          simp only [if_neg hm]
        obtain ⟨w', k2, a6, n6, c6, e6, o6, q6, rfl⟩ := new q1 ej
        unfold Ext.cs at e6
        have hb1 := (q1.2 b hb).trans hg
        simp only [go_sem, simprocAttr, decide_eq_false hm, r0, r3, r4, hA, hb1, hle, hdt', h1, e6, e9]
        exact Hold.mk ⟨xs.length - (i + 1), by omega, i + 1, .slice a6 n6 c6, by omega, rfl, by rw [et]; exact o6, q6, by simp only [go_sem, simprocAttr, r0, hA]⟩
  · have hi' : i = xs.length := by omega
    subst hi'
    rw [List.take_length] at hw
    simp only [go_sem, simprocAttr, r3]
    exact ⟨hw, q⟩
end
end Go.Proofs.Ytfdbadpiklmbaaa
