/- stream: decoding. -/
import Derived.Test.YtolnacokdjognaaStF
set_option linter.unusedSimpArgs false
set_option linter.unusedVariables false
set_option linter.unnecessarySimpa false
set_option maxRecDepth 100000
namespace Go.Proofs.Ytolnacokdjognaa
open Go.AM
theorem int_le {s : RdS} {m : Int} (hm : 0 ≤ m) : 0 ≤ (s.int m).1 ∧ (s.int m).1 ≤ m := by
  unfold RdS.int
  split
  · exact ⟨Int.le_refl _, hm⟩
  · split
    · exact ⟨Int.le_refl _, hm⟩
    · simp only; omega
section
variable {h k : AHeap} {S S' Z : Nat → Prop} {v w : Value}
theorem get_lt {id : Nat} {s : RdS} (hr : RdAt S h id v s) : s.get.1 < 18446744073709551616 := by
  unfold RdS.get
  cases hp : s.peek with
  | none => simp
  | some n => exact hr.leN_lt hp
theorem decode_ok {b : List Nat} (hv : Bytes S h b v) (hn : b.length ≤ 140737488355328) : Does Try.prog 70 #[v] h (fun u h' => h.quiet h' ∧ match decodeN b with
    | .ok m => ∃ w, u = .tuple #[.agg (m.cs w).toArray, .int .i64 0] ∧ Words (h.next ≤ ·) h' m.data w
    | .error e => u = .tuple #[.agg (Rec.zero.cs (.slice none 0 0)).toArray, .int .i64 e]) := by
  obtain ⟨a, c, rfl⟩ := hv.shape
  refine spec_go mixed Try.func70 rfl Try.results70 (n := Try.f70.ntmps) (by kernel_rfl) (by simp) ?_
  simp only [go_sem, simprocAttr]
  refine cl_spec (Open_ok (hv.quiet (.push _ _)) hn) (fun _ _ _ hc => absurd hc (by decide +kernel)) ?_
  rintro u k ⟨q, hp⟩
  have hq1 : h.quiet k := (AHeap.quiet.push _ _).trans q
  have hz := q.2 h.next (by simp)
  rw [AHeap.get_push_self] at hz
  unfold decodeN
  cases ho : openN b with
  | none =>
    rw [ho] at hp
    obtain rfl := hp
    simp only [go_sem, simprocAttr, hz]
    rw [AHeap.set_get hz (by simp), hz]
    simp only [go_sem, simprocAttr]
    exact ⟨hq1, rfl⟩
  | some x =>
    rw [ho] at hp
    obtain ⟨w, rfl, hx⟩ := hp
    simp only [go_sem, simprocAttr]
    obtain ⟨a2, c2, rfl⟩ := hx.shape
    refine cl_spec (new_ok hx.bound (fun j hj => hj.2)) (fun u h' hp _ => by rw [hp.2.1]; exact .push _ _) ?_
    rintro u k2 ⟨rfl, hk2, hrd⟩
    simp only [go_sem, simprocAttr]
    have qk2 : k.quiet k2 := by rw [hk2]; exact .push _ _
    have hn1 := AHeap.lt_of_alive k (i := h.next) (by rw [hz]; simp)
    have hz2 := (qk2.2 _ hn1).trans hz
    have hrn := hrd.lt
    refine cl_spec snumbers_ok (fun u h' hp _ => by rw [hp.2]; exact .push _ _) ?_
    rintro u k1 ⟨rfl, rfl⟩
    have hzs : ∃ cs0 : List Value, (cs0.length = 8 ∧ cs0[7]? = some (.slice none 0 0)) ∧ ((k2.push (.cells [.int .i64 0, .int .i64 0, .int .i64 0, .int .i64 0, .int .i64 0, .int .i64 0, .int .i64 0, .slice none 0 0] .rw)).push (.cells (rptrs k2.next) .rw)).get k2.next = .cells cs0 .rw := ⟨_, ⟨rfl, rfl⟩, by simp only [go_sem, simprocAttr]; rfl⟩
    simp only [go_sem, simprocAttr]
    have e2 : ((k2.push (.cells [.int .i64 0, .int .i64 0, .int .i64 0, .int .i64 0, .int .i64 0, .int .i64 0, .int .i64 0, .slice none 0 0] .rw)).push (.cells (rptrs k2.next) .rw)).get (k2.next + 1) = .cells (rptrs k2.next) .rw := by simp only [go_sem, simprocAttr]
    have e3 : k2.quiet ((k2.push (.cells [.int .i64 0, .int .i64 0, .int .i64 0, .int .i64 0, .int .i64 0, .int .i64 0, .int .i64 0, .slice none 0 0] .rw)).push (.cells (rptrs k2.next) .rw)) := by simp only [go_sem, simprocAttr]
    generalize (k2.push (.cells [.int .i64 0, .int .i64 0, .int .i64 0, .int .i64 0, .int .i64 0, .int .i64 0, .int .i64 0, .slice none 0 0] .rw)).push (.cells (rptrs k2.next) .rw) = kb at hzs e2 e3
    obtain ⟨cs0, hcs0, e1⟩ := hzs
    have hb1 := AHeap.lt_of_alive kb (i := k2.next) (by rw [e1]; simp)
    have hb2 := AHeap.lt_of_alive kb (i := k2.next + 1) (by rw [e2]; simp)
    obtain ⟨Sx, hSx, hrd'⟩ : ∃ Sx : Nat → Prop, (∀ j, Sx j → h.next < j ∧ j < k.next) ∧ RdAt Sx kb k.next (.slice a2 x.length c2) ⟨x, 0, 0, 0⟩ := ⟨_, fun j hj => by obtain ⟨h1, h2⟩ := hj; simp at h1; omega, hrd.quiet e3⟩
    have hb0 := hrd'.lt
    have hkn : k.next < k2.next := hrn
    have hzb := (e3.2 _ (Nat.lt_of_lt_of_le hn1 qk2.1)).trans hz2
    have hb3 := AHeap.lt_of_alive kb (i := h.next) (by rw [hzb]; simp)
    generalize hs0 : (⟨x, 0, 0, 0⟩ : RdS) = s0 at hrd'
    refine go_cutb (fun ρ k' => ∃ cs : List Value, Fw (fun j => j = k.next ∨ j = k2.next) kb k' ∧ RdAt Sx k' k.next (.slice a2 x.length c2) (stR s0 7) ∧ k'.get k2.next = .cells cs .rw ∧ (cs.length = 8 ∧ cs[7]? = some (.slice none 0 0)) ∧ cs.take 7 = ((List.range 7).map fun j => .int .i64 (xnR s0 j)) ∧
      ρ 2 = .pointer (some ⟨h.next, 0, none⟩) ∧ ρ 6 = .pointer (some ⟨k.next, 0, none⟩) ∧ ρ 7 = .pointer (some ⟨k2.next, 0, none⟩)) ?_ ?_
    · refine go_loop (fun z ρ k' => ∃ (i : Nat) (cs : List Value), i ≤ 7 ∧ z = 7 - i ∧ Fw (fun j => j = k.next ∨ j = k2.next) kb k' ∧ RdAt Sx k' k.next (.slice a2 x.length c2) (stR s0 i) ∧ k'.get k2.next = .cells cs .rw ∧ (cs.length = 8 ∧ cs[7]? = some (.slice none 0 0)) ∧ cs.take i = ((List.range i).map fun j => .int .i64 (xnR s0 j)) ∧
        ρ 2 = .pointer (some ⟨h.next, 0, none⟩) ∧ ρ 6 = .pointer (some ⟨k.next, 0, none⟩) ∧ ρ 7 = .pointer (some ⟨k2.next, 0, none⟩) ∧ ρ 21 = .slice (some ⟨k2.next + 1, 0, none⟩) 7 7 ∧ ρ 22 = .int .i64 7 ∧ ρ 23 = .int .i64 i) 7 ⟨0, cs0, by omega, by omega, .refl _ _, hrd', e1, hcs0, rfl, by simp only [go_sem, simprocAttr]⟩ ?_
      rintro z ρ k' ⟨i, cs, hi, rfl, f, hR, g1, hcs, htk, r2, r6, r7, r21, r22, r23⟩
      have g2 := (f.2 _ hb2 (by omega)).trans e2
      simp only [go_sem, simprocAttr, r2, r6, r7, r21, r22, r23]
      refine cnd_decide (fun hy => ?_) (fun hy => ?_)
      · have h1 : i < 7 := by omega
        have hp := rptrs_get (id := k2.next) h1
        have e9 : IntKind.i64.wrap ((i : Int) + 1) = ((i + 1 : Nat) : Int) := by rw [wi64] <;> omega
        simp only [go_sem, simprocAttr, r2, r6, r7, r21, r22, r23, hy, h1, g2, hp]
        refine cl_spec (int_ok hR (by decide)) (fun _ _ _ hc => absurd hc (by decide +kernel)) ?_
        rintro u k3 ⟨rfl, hR3, f3⟩
        have g13 := (f3.2 _ (AHeap.lt_of_alive k' (i := k2.next) (by rw [g1]; simp)) (by omega)).trans g1
        have hn3 := AHeap.lt_of_alive k3 (i := k2.next) (by rw [g13]; simp)
        simp only [go_sem, simprocAttr, r2, r6, r7, r21, r22, r23, g13, hcs.1, hi, e9]
        have fs : Fw (· = k2.next) k3 (k3.set k2.next (.cells (cs.set i (.int .i64 (xnR s0 i))) .rw)) := .set _
        have gs : (k3.set k2.next (.cells (cs.set i (.int .i64 (xnR s0 i))) .rw)).get k2.next = .cells (cs.set i (.int .i64 (xnR s0 i))) .rw := AHeap.get_set_self _ _ hn3
        change Hold _ _ (k3.set k2.next (.cells (cs.set i (.int .i64 (xnR s0 i))) .rw))
        generalize k3.set k2.next (.cells (cs.set i (.int .i64 (xnR s0 i))) .rw) = k4 at fs gs
        refine Hold.mk ⟨7 - (i + 1), by omega, i + 1, cs.set i (.int .i64 (xnR s0 i)), by omega, rfl, ?_, ⟨(fs.2 _ hR3.lt (by omega)).trans hR3.1, hR3.2.1.fr fs (fun j hj _ => by have := hSx j hj; omega), hR3.2.2⟩, gs, ⟨by simpa using hcs.1, by rw [List.getElem?_set_ne (by omega)]; exact hcs.2⟩, ?_, by simp only [go_sem, simprocAttr, r2, r6, r7, r21, r22]⟩
        · exact (f.trans f3 (fun j _ e => e) (fun j _ e => .inl e)).trans fs (fun j _ e => e) (fun j _ e => .inr e)
        · rw [take_set_succ (by omega), htk, List.range_succ, List.map_append]; rfl
      · have : i = 7 := by omega
        subst this
        simp only [go_sem, simprocAttr, r2, r6, r7]
        exact Hold.mk ⟨cs, f, hR, g1, hcs, htk, r2, r6, r7⟩
    · rintro ρ k' ⟨cs, f, hR, g1, hcs, htk, r2, r6, r7⟩
      simp only [go_sem, simprocAttr, r2, r6, r7]
      refine cl_spec (int_ok hR (most := 64) (by decide)) (fun _ _ _ hc => absurd hc (by decide +kernel)) ?_
      rintro u k3 ⟨rfl, hR3, f3⟩
      have g13 := (f3.2 _ (AHeap.lt_of_alive k' (i := k2.next) (by rw [g1]; simp)) (by omega)).trans g1
      have F3 : Fw (fun j => j = k.next ∨ j = k2.next) kb k3 := f.trans f3 (fun j _ e => e) (fun j _ e => .inl e)
      obtain ⟨hc0, hc64⟩ := int_le (s := stR s0 7) (m := 64) (by decide)
      have ecnt : ((stR s0 7).int 64).1 = (((rcnt s0).toNat : Nat) : Int) := by
        show rcnt s0 = _
        have : 0 ≤ rcnt s0 := hc0
        omega
      have hcnt : (rcnt s0).toNat ≤ 64 := by have : rcnt s0 ≤ 64 := hc64; omega
      replace hR3 : RdAt Sx k3 k.next (.slice a2 x.length c2) (gtS (s8 s0) 0) := hR3
      have hcse : cs = (⟨xnR s0 0, xnR s0 1, xnR s0 2, xnR s0 3, xnR s0 4, xnR s0 5, xnR s0 6, []⟩ : Rec).cs (.slice none 0 0) := by
        have hl := hcs.1
        have h7 := hcs.2
        have e := List.take_append_drop 7 cs
        rw [htk, drop_cons h7, List.drop_of_length_le (by omega)] at e
        exact e.symm
      subst hcse
      rw [ecnt]
      generalize hce : (rcnt s0).toNat = cnt at hcnt
      have erec : recOf s0 = ⟨xnR s0 0, xnR s0 1, xnR s0 2, xnR s0 3, xnR s0 4, xnR s0 5, xnR s0 6, (List.range cnt).map (gtN (s8 s0))⟩ := by unfold recOf; rw [hce]
      have edec : (gtS (s8 s0) cnt).fin = decS s0 := by unfold decS; rw [hce]
      clear hcs htk g1 f hR ecnt hc0 hc64
      simp only [go_sem, simprocAttr, r2, r6, r7]
      refine go_cutb (fun ρ k' => ∃ lv, Fw (fun j => j = k.next ∨ j = k2.next) kb k' ∧ RdAt Sx k' k.next (.slice a2 x.length c2) (gtS (s8 s0) cnt) ∧ k'.get k2.next = .cells ((⟨xnR s0 0, xnR s0 1, xnR s0 2, xnR s0 3, xnR s0 4, xnR s0 5, xnR s0 6, (List.range cnt).map (gtN (s8 s0))⟩ : Rec).cs lv) .rw ∧ Lst rW kb.next (fun _ => False) k' ((List.range cnt).map (gtN (s8 s0))) lv ∧
        ρ 2 = .pointer (some ⟨h.next, 0, none⟩) ∧ ρ 6 = .pointer (some ⟨k.next, 0, none⟩) ∧ ρ 7 = .pointer (some ⟨k2.next, 0, none⟩)) ?_ ?_
      · refine go_loop (fun z ρ k' => ∃ (j : Nat) (lv : Value), j ≤ cnt ∧ z = cnt - j ∧ Fw (fun j => j = k.next ∨ j = k2.next) kb k' ∧ RdAt Sx k' k.next (.slice a2 x.length c2) (gtS (s8 s0) j) ∧ k'.get k2.next = .cells ((⟨xnR s0 0, xnR s0 1, xnR s0 2, xnR s0 3, xnR s0 4, xnR s0 5, xnR s0 6, (List.range j).map (gtN (s8 s0))⟩ : Rec).cs lv) .rw ∧ Lst rW kb.next (fun _ => False) k' ((List.range j).map (gtN (s8 s0))) lv ∧
          ρ 2 = .pointer (some ⟨h.next, 0, none⟩) ∧ ρ 6 = .pointer (some ⟨k.next, 0, none⟩) ∧ ρ 7 = .pointer (some ⟨k2.next, 0, none⟩) ∧ ρ 33 = .int .i64 cnt ∧ ρ 34 = .int .i64 j) cnt ⟨0, .slice none 0 0, by omega, by omega, F3, hR3, g13, .nil _ _ _ _, by simp only [go_sem, simprocAttr, r2, r6, r7]⟩ ?_
        rintro z ρ k' ⟨j, lv, hj, rfl, f, hR, g1, hl, r2, r6, r7, r33, r34⟩
        simp only [go_sem, simprocAttr, r2, r6, r7, r33, r34]
        refine cnd_decide (fun hy => ?_) (fun hy => ?_)
        · have h1 : j < cnt := by omega
          have e9 : IntKind.i64.wrap ((j : Int) + 1) = ((j + 1 : Nat) : Int) := by rw [wi64] <;> omega
          have hk2 := AHeap.lt_of_alive k' (i := k2.next) (by rw [g1]; simp)
          have hgl := get_lt hR
          obtain ⟨al, nl, cl', rfl⟩ : ∃ ax nx cx, lv = .slice ax nx cx := by obtain ⟨ax, cx, e, _⟩ := hl.len; exact ⟨ax, _, cx, e⟩
          simp only [go_sem, simprocAttr, r2, r6, r7, r33, r34, g1, rc_7]
          refine cl_hard [7] (by decide +kernel) (get_ok hR) (fun v h' hp t ht y hy => ?_) ?_
          · obtain rfl : t = 7 := by simpa using ht
            replace hy : vblk (.pointer (some ⟨k2.next, 0, none⟩)) = some y := by rw [← hy]; simp only [go_sem, simprocAttr, r7]
            cases hy
            show h'.get k2.next = k'.get k2.next
            exact hp.2.2.2 _ hk2 (by omega)
          · rintro u k4 ⟨rfl, hR4, f4⟩
            have g14 := (f4.2 _ hk2 (by omega)).trans g1
            have qp : k4.quiet (k4.push (.cells [.int .u64 ((gtS (s8 s0) j).get.1 : Nat)] .rw)) := .push _ _
            have hl4 : Lst rW kb.next (fun _ => False) k4 ((List.range j).map (gtN (s8 s0))) (.slice al nl cl') := hl.mono (Nat.le_refl _) f4.1 (fun _ e _ _ => e.elim) (fun i hi hil => f4.2 i hil (by have := (hl.blk_ge hi).1; omega))
            obtain ⟨lv', k6, e, hl6, f6, _⟩ := (hl4.quiet qp).app1 (y := (gtS (s8 s0) j).get.1) (cs := [.int .u64 ((gtS (s8 s0) j).get.1 : Nat)]) (bytes := 8) 1 rfl ⟨rfl, by rw [u64_max]; omega⟩ (by simp; omega) (by simp; omega) (by have := f.1; have := f4.1; simp; omega)
            obtain ⟨al6, nl6, cl6, rfl⟩ : ∃ ax nx cx, lv' = .slice ax nx cx := by obtain ⟨ax, cx, e, _⟩ := hl6.len; exact ⟨ax, _, cx, e⟩
            have hk4 := AHeap.lt_of_alive k4 (i := k2.next) (by rw [g14]; simp)
            have f46 : Fw (fun j => blk (Value.slice al nl cl') = some j) k4 k6 := Fw.after qp f6
            have g16 := (f46.2 _ hk4 (fun e => by have := (hl.blk_ge e).1; omega)).trans g14
            have hk6 := AHeap.lt_of_alive k6 (i := k2.next) (by rw [g16]; simp)
            simp only [go_sem, simprocAttr, r2, r6, r7, r33, r34, e, g16, rc_len, e9]
            have fs : Fw (· = k2.next) k6 (k6.set k2.next (.cells ((⟨xnR s0 0, xnR s0 1, xnR s0 2, xnR s0 3, xnR s0 4, xnR s0 5, xnR s0 6, (List.range (j + 1)).map (gtN (s8 s0))⟩ : Rec).cs (.slice al6 nl6 cl6)) .rw)) := .set _
            have gs : (k6.set k2.next (.cells ((⟨xnR s0 0, xnR s0 1, xnR s0 2, xnR s0 3, xnR s0 4, xnR s0 5, xnR s0 6, (List.range (j + 1)).map (gtN (s8 s0))⟩ : Rec).cs (.slice al6 nl6 cl6)) .rw)).get k2.next = .cells ((⟨xnR s0 0, xnR s0 1, xnR s0 2, xnR s0 3, xnR s0 4, xnR s0 5, xnR s0 6, (List.range (j + 1)).map (gtN (s8 s0))⟩ : Rec).cs (.slice al6 nl6 cl6)) .rw := AHeap.get_set_self _ _ hk6
            change Hold _ _ (k6.set k2.next (.cells ((⟨xnR s0 0, xnR s0 1, xnR s0 2, xnR s0 3, xnR s0 4, xnR s0 5, xnR s0 6, (List.range (j + 1)).map (gtN (s8 s0))⟩ : Rec).cs (.slice al6 nl6 cl6)) .rw))
            have hl7 : Lst rW kb.next (fun _ => False) (k6.set k2.next (.cells ((⟨xnR s0 0, xnR s0 1, xnR s0 2, xnR s0 3, xnR s0 4, xnR s0 5, xnR s0 6, (List.range (j + 1)).map (gtN (s8 s0))⟩ : Rec).cs (.slice al6 nl6 cl6)) .rw)) ((List.range (j + 1)).map (gtN (s8 s0))) (.slice al6 nl6 cl6) := by
              have := hl6.mono (h' := (k6.set k2.next (.cells ((⟨xnR s0 0, xnR s0 1, xnR s0 2, xnR s0 3, xnR s0 4, xnR s0 5, xnR s0 6, (List.range (j + 1)).map (gtN (s8 s0))⟩ : Rec).cs (.slice al6 nl6 cl6)) .rw))) (lo' := kb.next) (T' := fun _ => False) (Nat.le_refl _) (by simp) (fun _ e _ _ => e.elim) (fun i hi hil => fs.2 i hil (by have := (hl6.blk_ge hi).1; omega))
              rw [List.range_succ, List.map_append]
              exact this
            generalize k6.set k2.next (.cells ((⟨xnR s0 0, xnR s0 1, xnR s0 2, xnR s0 3, xnR s0 4, xnR s0 5, xnR s0 6, (List.range (j + 1)).map (gtN (s8 s0))⟩ : Rec).cs (.slice al6 nl6 cl6)) .rw) = k7 at fs gs hl7
            have f47 : Fw (fun j => j = k.next ∨ j = k2.next) kb k7 := ((f.trans f4 (fun j _ e => e) (fun j _ e => .inl e)).trans f46 (fun j _ e => e) (fun i hi e => by have := (hl.blk_ge e).1; omega)).trans fs (fun j _ e => e) (fun j _ e => .inr e)
            have hR7 : RdAt Sx k7 k.next (.slice a2 x.length c2) (gtS (s8 s0) (j + 1)) := by
              have f57 : Fw (fun i => blk (Value.slice al nl cl') = some i ∨ i = k2.next) k4 k7 := f46.trans fs (fun j _ e => .inl e) (fun j _ e => .inr e)
              refine ⟨(f57.2 _ hR4.lt ?_).trans hR4.1, hR4.2.1.fr f57 (fun i hi _ => ?_), hR4.2.2⟩
              · rintro (e | e)
                · have := (hl.blk_ge e).1; omega
                · omega
              · have := hSx i hi
                rintro (e | e)
                · have := (hl.blk_ge e).1; omega
                · omega
            exact Hold.mk ⟨cnt - (j + 1), by omega, j + 1, _, by omega, rfl, f47, hR7, gs, hl7, by simp only [go_sem, simprocAttr, r2, r6, r7, r33]⟩
        · have : j = cnt := by omega
          subst this
          simp only [go_sem, simprocAttr, r2, r6, r7]
          exact Hold.mk ⟨lv, f, hR, g1, hl, r2, r6, r7⟩
      · rintro ρ k4 ⟨lv, f, hR4, gs, hl, r2, r6, r7⟩
        rw [← erec] at gs
        have hlv4 : Words (fun j => kb.next ≤ j) k4 (recOf s0).data lv := by
          rw [show (recOf s0).data = (List.range cnt).map (gtN (s8 s0)) by rw [erec]]
          exact hl.isSl (fun _ e _ => e.elim) (fun _ e => e)
        obtain ⟨al, cv, rfl⟩ := hlv4.shape
        simp only [go_sem, simprocAttr, r2, r6, r7]
        refine cl_spec (fin_ok hR4) (fun _ _ _ hc => absurd hc (by decide +kernel)) ?_
        rintro u k5 ⟨rfl, hR5, f5⟩
        have hn4 := AHeap.lt_of_alive k4 (i := k2.next) (by rw [gs]; simp)
        have gs5 := (f5.2 _ hn4 (by omega)).trans gs
        have hlv5 := hlv4.fr f5 (fun j hj _ => by omega)
        have F : Fw (fun j => j = k.next ∨ j = k2.next) kb k5 := f.trans f5 (fun j _ e => e) (fun j _ e => .inl e)
        have F2 : h.quiet k5 := Fw.behind ((hq1.trans qk2).trans e3) F (fun j e => by have := hq1.1; omega)
        have hz5 := (F.2 _ hb3 (by omega)).trans hzb
        have hn5 := AHeap.lt_of_alive k5 (i := h.next) (by rw [hz5]; simp)
        have hone := rc_one (recOf s0) al (recOf s0).data.length cv
        have hlen := rc_len (recOf s0) (.slice al (recOf s0).data.length cv)
        rw [edec] at hR5
        by_cases hf : (decS s0).why = 0 ∧ (decS s0).fat = 0
        · simp only [go_sem, simprocAttr, r2, r6, r7, edec, hf.1, hf.2, eq_self, decide_true, gs5, hlen, hone, List.take_of_length_le (Nat.le_of_eq hlen), List.drop_zero]
          refine cl_spec (May_ok hlv5) (fun u h' hp _ => hp.2) ?_
          rintro u k6 ⟨rfl, q6⟩
          have gs6 := (q6.2 _ (AHeap.lt_of_alive k5 (i := k2.next) (by rw [gs5]; simp))).trans gs5
          have hz6 := (q6.2 _ hn5).trans hz5
          have hn6 := AHeap.lt_of_alive k6 (i := h.next) (by rw [hz6]; simp)
          have hlv6 := hlv5.quiet q6
          have hqs : ∀ o, h.quiet (k6.set h.next o) := fun o => (F2.trans q6).set' (Nat.le_refl _) o
          by_cases hr : (recOf s0).may
          · have hput := rc_put (recOf s0) (.slice al (recOf s0).data.length cv)
            rw [if_pos hr]
            simp only [go_sem, simprocAttr, r2, r6, r7, hr, decide_true, gs6, hz6, hlen, hone, List.take_of_length_le (Nat.le_of_eq hlen), List.drop_zero, hput, AHeap.get_set_self _ _ hn6]
            exact ⟨hqs _, _, rfl, (hlv6.fr (W := (· = h.next)) (.set _) (fun j hj _ => by omega)).weaken (fun j hj => by omega)⟩
          · rw [if_neg hr]
            simp only [go_sem, simprocAttr, r2, r6, r7, hr, decide_false, gs6, hz6, hlen, hone, AHeap.get_set_self _ _ hn6]
            exact ⟨hqs _, rfl⟩
        · rw [if_neg (fun e => hf e.1)]
          have hqs : ∀ o, h.quiet (k5.set h.next o) := fun o => F2.set' (Nat.le_refl _) o
          by_cases hw : (decS s0).why = 0
          · simp only [go_sem, simprocAttr, r2, r6, r7, edec, hw, eq_false fun e => hf ⟨hw, e⟩, eq_self, decide_true, decide_false, hz5, AHeap.get_set_self _ _ hn5]
            exact ⟨hqs _, rfl⟩
          · simp only [go_sem, simprocAttr, r2, r6, r7, edec, hw, eq_self, decide_true, decide_false, hz5, AHeap.get_set_self _ _ hn5]
            exact ⟨hqs _, rfl⟩
end
end Go.Proofs.Ytolnacokdjognaa
