/- shard: the law Since, walked. -/
import Derived.Test.YtjkganmkfhciiaaShQ
import Derived.Test.YtjkganmkfhciiaaShL
set_option linter.unusedSimpArgs false
set_option linter.unusedVariables false
set_option linter.unnecessarySimpa false
set_option maxRecDepth 100000
namespace Go.Proofs.Ytjkganmkfhciiaa
open Go.AM

theorem lookS_in : ∀ {l : List (Int × Int)} {p : Int × Int}, (l.map Prod.fst).Nodup → p ∈ l → lookS l p.1 = some p.2
  | q :: l, p, hn, hp => by
    rw [List.map_cons, List.nodup_cons] at hn
    unfold lookS
    rcases List.mem_cons.1 hp with rfl | hp
    · rw [if_pos rfl]
    · rw [if_neg (show ¬ p.1 = q.1 from fun e => hn.1 (by rw [← e]; exact List.mem_map_of_mem hp))]
      exact lookS_in hn.2 hp
theorem vol_zero {m : Sm} {b : Nat} (g : m.good b) : m.vol 0 = List.replicate m.n.toNat 0 := by
  unfold Sm.vol
  rw [g.c.part g.c.has0]
  have : m.ts.getD (0 : Int).toNat .nil = .nil := by show m.ts.getD 0 .nil = _; rw [List.getD, g.c.z]; rfl
  rw [this]; rfl
theorem zeros_eq (n : Nat) : azeros [.int .u64 0] n = wv (List.replicate n 0) := by
  simp only [azeros, wv, List.map_replicate]
  refine List.ext_getElem (by simp) fun i h1 h2 => ?_
  simp [Nat.mod_one]
theorem rBopO_imp : rBopO.imp rBop := ⟨rfl, fun e => by obtain ⟨d, rfl, h1, h2⟩ := rBopO_iff.1 e; exact rBop_iff.2 ⟨d, rfl, h1, h2.isSl⟩⟩
section
variable {own own' own'' : Nat → Nat} {h h' h'' : AHeap} {S S' : Nat → Prop} {m : Sm} {id : Nat} {v w : Value} {b : Nat}
/-- What is found of a snapshot's key. -/
theorem find_key {m : Sm} {b : Nat} (g : m.good b) {x : Int} (hx : x ∈ m.snaps.map Prod.fst) : ∃ r, m.find x = (r, 0) ∧ Has m.ts r ∧ x ≠ 0 := by
  obtain ⟨p, hp, rfl⟩ := List.mem_map.1 hx
  have := g.sn p hp
  exact ⟨p.2, by unfold Sm.find; rw [lookS_in g.nd hp], this.1, by omega⟩
/-- A number, and those behind it. -/
theorem one_more {k : AHeap} {j : Nat} {xs : List Int} {u : Value} (hg : k.get j = .cells [.int .i64 0] .rw) (hs : Ints S k xs u) (hx : ∀ x ∈ xs, inI x) (hl : xs.length ≤ 1000000) :
    ∃ v' k', aappend k 1 8 (.slice (some ⟨j, 0, none⟩) 1 1) xs.length (xs.map fun x => .int .i64 x) = some (v', k') ∧ Ints (fun _ => True) k' (0 :: xs) v' ∧ k.quiet k' ∧ ∃ a n c, v' = .slice a n c := by
  by_cases h0 : xs.length = 0
  · have e : xs = [] := List.eq_nil_of_length_eq_zero h0
    subst e
    refine ⟨.slice (some ⟨j, 0, none⟩) 1 1, k, ?_, .fresh (css := [[.int .i64 0]]) (.cons ⟨rfl, by decide⟩ .nil) rfl (by decide) trivial hg rfl, .refl _, _, _, _, rfl⟩
    unfold aappend
    simp
  · have ec : acells k 1 1 (.slice (some ⟨j, 0, none⟩) 1 1) = some [.int .i64 0] := by unfold acells; simp [hg]
    refine ⟨.slice (some ⟨k.next, 0, some 1⟩) (1 + xs.length) (1 + xs.length), k.push (.cells ([.int .i64 0] ++ xs.map fun x => .int .i64 x) (.tail 1)), ?_, ?_, .push _ _, _, _, _, rfl⟩
    · unfold aappend
      dsimp only
      rw [if_neg (by omega), if_pos (by omega), ec]
    · refine ⟨_, 1 + xs.length, [.int .i64 0] :: xs.map fun x => [.int .i64 x], by rw [List.length_cons, Nat.add_comm xs.length 1], by rw [List.length_cons]; omega, by rw [List.length_cons]; omega, (fun e => by cases e), (fun ad e => by cases e; exact .inr rfl), .cons ⟨rfl, by decide⟩ (int_all2 fun x hx' => inI_iff.1 (hx x hx')), fun _ => ⟨_, _, _, rfl, trivial, AHeap.get_push_self _ _, ?_, ?_⟩⟩
      · show 0 + (xs.length + 1) * 1 ≤ _
        simp
      · show List.take ((xs.length + 1) * 1) (List.drop 0 _) = _
        rw [List.drop_zero, List.take_of_length_le (by simp), List.flatten_cons, int_flat]
theorem sinceLaw_ok {n : Int} {xs : List SAct} {vs : Value} (hn : inI n) (hx : IsSl rSAct (· < h.next) h xs vs) (hxl : xs.length ≤ 1048576) :
    Does Try.prog 5 #[.int .i64 n, vs] h (fun u h' => u = .bool true ∧ h.quiet h') := by
  obtain ⟨ax, cx, rfl⟩ := hx.shape
  obtain ⟨N, hN, eN⟩ := and63 n
  obtain ⟨X, hX⟩ : ∃ X, Value.int .i64 n = X := ⟨_, rfl⟩
  rw [hX] at eN ⊢
  refine spec_go mixed Try.func5 rfl Try.results5 (n := Try.f5.ntmps) (by kernel_rfl) (by simp) ?_
  simp only [go_sem, simprocAttr, eN]
  refine cl_spec (snew_ok (own := fun _ => 0) (n := N) (by unfold inI; omega)) (fun _ _ _ hc => absurd hc (by decide +kernel)) ?_
  rintro u k ⟨q, ⟨_, _, id, ow, rfl, hid, a, k0⟩ | ⟨h4, _⟩⟩
  rotate_left
  · exact absurd (by omega) h4
  simp only [go_sem, simprocAttr]
  refine cl_spec alive_ok (fun _ _ _ hc => absurd hc (by decide +kernel)) ?_
  rintro u k1 ⟨rfl, q1⟩
  have a1 := a.quiet q1 0
  have kk1 : Ks shT (fun _ => 0) h (bump ow k 0) k1 := (k0.weaken fun t e => e.elim).trans (.quiet q1 0)
  have g1 := Sm.new_good (n := N) (by omega) (by omega)
  simp only [go_sem, simprocAttr]
  refine go_cutb (fun ρ k => ∃ (m : Sm) (ow : Nat → Nat) (b : Nat), b ≤ xs.length ∧ m.good b ∧ m.n = N ∧ ShAt ow k id m ∧ Ks shT (fun _ => 0) h ow k ∧ ρ 0 = .int .i64 N ∧ ρ 5 = .pointer (some ⟨id, 0, none⟩)) ?_ ?_
  · refine go_loop (fun z ρ k => ∃ (i : Nat) (m : Sm) (ow : Nat → Nat), i ≤ xs.length ∧ z = xs.length - i ∧ m.good i ∧ m.n = N ∧ ShAt ow k id m ∧ Ks shT (fun _ => 0) h ow k ∧ ρ 0 = .int .i64 N ∧ ρ 5 = .pointer (some ⟨id, 0, none⟩) ∧ ρ 38 = .slice ax xs.length cx ∧ ρ 39 = .int .i64 xs.length ∧ ρ 40 = .int .i64 i) xs.length
      ⟨0, _, _, by omega, by omega, g1, rfl, a1, kk1, by simp only [go_sem, simprocAttr]⟩ ?_
    rintro z ρ k ⟨i, m, ow, hi, rfl, gm, hmn, am, kk, r0, r5, r38, r39, r40⟩
    simp only [go_sem, simprocAttr, r0, r5, r38, r39, r40]
    refine cnd_decide (fun hy => ?_) (fun hy => ?_)
    · have h1 : i < xs.length := by omega
      have e40 : IntKind.i64.wrap ((i : Int) + 1) = ((i + 1 : Nat) : Int) := by rw [wi64] <;> omega
      have hxk := hx.mono (S' := (· < h.next)) (h' := k) fun j hj _ => ⟨hj, (kk.2 j hj).2 (by show ¬ shT 0; unfold shT; omega)⟩
      obtain ⟨jb, off, sp, cc, md, x, xv, xw, hA, hSb, hgb, hxi, hxv, hxw, hxin, hle, hdt⟩ := IsSl.atS hxk h1
      subst hA
      obtain ⟨av, cv, rfl⟩ := hxv.shape
      obtain ⟨aw, cw, rfl⟩ := hxw.shape
      simp only [go_sem, simprocAttr, r5, r38, r40, h1, hgb, hle, hdt, sa_len, sa_one, sa_take, sa_put]
      have qp : k.quiet (k.push (.cells (x.cs (.slice av x.op.data.length cv) (.slice aw x.keep.length cw)) .rw)) := .push _ _
      have kkp := kk.trans (Ks.quiet (T := shT) qp 0)
      refine cl_spec (does_ok (am.quiet qp 0) gm (by omega) hxin (hxv.quiet qp) (hxw.quiet qp) (fun j hj => by rw [(kkp.2 j hj).1]; show (0 : Nat) ≠ 1 ∧ (0 : Nat) ≠ 6 ∧ (0 : Nat) ≠ 7; decide)) (fun _ _ _ hc => absurd hc (by decide +kernel)) ?_
      rintro u k2 ⟨rfl, ow2, a2, k12⟩
      simp only [go_sem, simprocAttr, r40, e40]
      exact Hold.mk ⟨xs.length - (i + 1), by omega, i + 1, _, ow2, by omega, rfl, gm.act (by omega) hxin.2.1, by rw [act_n]; exact hmn, a2, kkp.trans k12, by simp only [go_sem, simprocAttr, r0, r5, r38, r39]⟩
    · simp only [go_sem, simprocAttr]
      exact Hold.mk ⟨m, ow, i, hi, gm, hmn, am, kk, by simp only [go_sem, simprocAttr, r0, r5]⟩
  · rintro ρ k ⟨m, ow, b, hb, gm, hmn, am, kk, r0, r5⟩
    have Q0 : h.quiet k := kk.quiet0 fun j => by show ¬ shT 0; unfold shT; omega
    have qa : k.quiet (k.push (.cells [.int .i64 0] .rw)) := .push _ _
    simp only [go_sem, simprocAttr, r0, r5]
    refine cl_spec (sSnaps_ok (am.quiet qa 0) (by have := gm.sl; omega)) (fun _ _ _ hc => absurd hc (by decide +kernel)) ?_
    rintro u k2 ⟨l2, q2⟩
    have hk2 := (q2.2 k.next (by simp)).trans (AHeap.get_push_self k (.cells [.int .i64 0] .rw))
    have il2 : Ints (fun _ => True) k2 (m.snaps.map Prod.fst) u := l2.isSl (fun _ _ _ => trivial) (fun _ _ => trivial)
    obtain ⟨a2, c2, rfl⟩ := il2.shape
    obtain ⟨v3, k3, e3, i3, q3, a3, n3, c3, rfl⟩ := one_more hk2 il2 (fun x hx => inI_iff.2 (il2.ints x hx)) (by have := gm.sl; rw [List.length_map]; omega)
    simp only [go_sem, simprocAttr, il2.acellsI, map_int_ones, e3]
    obtain ⟨rfl, hL0⟩ := i3.len
    obtain ⟨L, hL⟩ : ∃ L, (0 : Int) :: m.snaps.map Prod.fst = L := ⟨_, rfl⟩
    rw [hL] at i3 ⊢
    have hLl : L.length = m.snaps.length + 1 := by rw [← hL, List.length_cons, List.length_map]
    have hL33 : L.length ≤ 33 := by have := gm.sl; omega
    have hmin : min (L.length : Int) 8 = ((min L.length 8 : Nat) : Int) := by omega
    obtain ⟨n4, hn4⟩ : ∃ n4, min L.length 8 = n4 := ⟨_, rfl⟩
    obtain ⟨a4, c4, e4_, i4⟩ := i3.slice 1 rfl (l := 0) (m := n4) (by omega) (by omega)
    obtain ⟨a5, c5, e5_, i5⟩ := i3.slice 1 rfl (l := 1) (m := L.length) (by omega) (by omega)
    have e4 : slI 1 a3 L.length c3 (some 0) (some (min (L.length : Int) 8)) = some (.slice a4 n4 c4) := by rw [hmin, hn4]; exact e4_
    have e5 : slI 1 a3 L.length c3 (some 1) (some (L.length : Int)) = some (.slice a5 (L.length - 1) c5) := e5_
    have Q3 : k.quiet k3 := qa.trans (q2.trans q3)
    have am3 := am.quiet Q3 0
    generalize bump ow k 0 = ow3 at am3
    have QQ3 := Q0.trans Q3
    obtain ⟨L4, hL4⟩ : ∃ L4, (L.drop 0).take (n4 - 0) = L4 := ⟨_, rfl⟩
    have hL4m : ∀ x ∈ L4, x = 0 ∨ x ∈ m.snaps.map Prod.fst := fun x hx => by
      rw [← hL4] at hx
      have := List.mem_of_mem_drop (List.mem_of_mem_take hx)
      rw [← hL] at this
      exact List.mem_cons.1 this
    rw [hL4] at i4
    have hn4' : n4 = L4.length := i4.len.1
    obtain ⟨K, hK⟩ : ∃ K, (L.drop 1).take (L.length - 1) = K := ⟨_, rfl⟩
    have hKm : ∀ x ∈ K, x ∈ m.snaps.map Prod.fst := fun x hx => by
      rw [← hK] at hx
      have := List.mem_of_mem_take hx
      rw [← hL] at this
      exact this
    rw [hK] at i5
    have hKl : L.length - 1 = K.length := i5.len.1
    simp only [go_sem, simprocAttr, e4]
    refine go_loop (fun z ρ k4 => ∃ i : Nat, i ≤ L4.length ∧ z = L4.length - i ∧ k3.quiet k4 ∧ ρ 0 = .int .i64 N ∧ ρ 5 = .pointer (some ⟨id, 0, none⟩) ∧ ρ 9 = .slice a3 L.length c3 ∧ ρ 56 = .slice a4 n4 c4 ∧ ρ 57 = .int .i64 n4 ∧ ρ 58 = .int .i64 i) L4.length
      ⟨0, by omega, by omega, .refl _, by simp only [go_sem, simprocAttr, r0, r5]⟩ ?_
    rintro z ρ4 k4 ⟨i, hi, rfl, q4, s0, s5, s9, s56, s57, s58⟩
    have am4 := am3.quiet q4 0
    simp only [go_sem, simprocAttr, s0, s5, s9, s56, s57, s58]
    refine cnd_decide (fun hy => ?_) (fun hy => ?_)
    · have h1 : i < n4 := by omega
      have h1' : (i : Int) < n4 := by omega
      have e58 : IntKind.i64.wrap ((i : Int) + 1) = ((i + 1 : Nat) : Int) := by have : n4 ≤ 33 := by omega
                                                                                rw [wi64] <;> omega
      obtain ⟨jb, off, sp, cc, md, bb, hA, _, hgb, hbi, _, hdt⟩ := (i4.quiet q4).atI h1
      subst hA
      have hbm := hL4m bb (List.mem_of_getElem? hbi)
      have mN : N ≤ N ∧ 8 * (N : Int) ≤ 281474976710656 ∧ (N : Int) ≤ 281474976710656 := by omega
      simp only [go_sem, simprocAttr, s0, s56, s58, h1, h1', hgb, hdt, if_pos mN]
      have q5 : k4.quiet (k4.push (.cells (azeros [.int .u64 0] N) .rw)) := .push _ _
      have g5 : (k4.push (.cells (azeros [.int .u64 0] N) .rw)).get k4.next = .cells (wv (List.replicate N 0)) .rw := by rw [← zeros_eq]; simp
      generalize k4.push (.cells (azeros [.int .u64 0] N) .rw) = k5 at q5 g5
      have wz : Words (fun _ => True) k5 (List.replicate N 0) (.slice (some ⟨k4.next, 0, none⟩) N N) := wv_words (by simp) (by omega) (fun x hx => by obtain rfl := List.eq_of_mem_replicate hx; decide) g5 trivial
      have am5 := am4.quiet q5 0
      have hob : Has m.ts (m.old bb) := by
        unfold Sm.old
        split
        · exact gm.c.has0
        · rename_i hne
          rcases hbm with e | hbk
          · exact absurd e hne
          · obtain ⟨r, e1, e2, _⟩ := find_key gm hbk
            rw [e1]; exact e2
      refine cnd_join (fun ρ k6 => ∃ w, k5.quiet k6 ∧ Words (fun _ => True) k6 (m.vol (m.old bb)) w ∧ ρ 12 = w ∧ ρ 0 = .int .i64 N ∧ ρ 5 = .pointer (some ⟨id, 0, none⟩) ∧ ρ 9 = .slice a3 L.length c3 ∧ ρ 11 = .int .i64 bb ∧ ρ 56 = .slice (some ⟨jb, off, sp⟩) n4 c4 ∧ ρ 57 = .int .i64 n4 ∧ ρ 58 = .int .i64 i) ?_ ?_
      · by_cases hb0 : bb = 0
        · have eo : m.vol (m.old bb) = List.replicate N 0 := by
            unfold Sm.old
            rw [if_pos hb0, vol_zero gm, hmn]; rfl
          rw [hb0] at eo
          simp only [go_sem, simprocAttr, hb0, decide_true, decide_false]
          refine Hold.mk ⟨_, .refl _, by rw [eo]; exact wz, ?_⟩
          simp only [go_sem, simprocAttr, s0, s5, s9, s56, s57, s58, hb0]
        · obtain ⟨r, e1, e2, _⟩ := find_key gm (hbm.resolve_left hb0)
          have eo : m.old bb = r := by unfold Sm.old; rw [if_neg hb0, e1]
          simp only [go_sem, simprocAttr, hb0, decide_true, decide_false, s5, s0]
          refine cl_spec (sLook_ok am5 gm (x := bb) (off := 0) (n := N) (by unfold inJ; omega) (by unfold inJ; omega)) (fun _ _ _ hc => absurd hc (by decide +kernel)) ?_
          have hrd : readL (m.vol r) 0 N = (m.vol r, 0) := by rw [← hmn]; exact readL_all gm r
          rw [e1, hrd]
          simp only [ne_eq, not_true_eq_false, if_false]
          rintro u k6 ⟨w6, rfl, wr6, q6⟩
          obtain ⟨a6, c6, rfl⟩ := wr6.shape
          simp only [go_sem, simprocAttr]
          refine Hold.mk ⟨_, q6, by rw [eo]; exact wr6.weaken fun _ _ => trivial, ?_⟩
          simp only [go_sem, simprocAttr, s0, s5, s9, s56, s57, s58]
      · rintro ρ6 k6 ⟨w6, q6, wr6, t12, t0, t5, t9, t11, t56, t57, t58⟩
        obtain ⟨a6, c6, rfl⟩ := wr6.shape
        have am6 := am5.quiet q6 0
        have since_eq : ∀ x r, m.find x = (r, 0) → m.since bb x = (shortF (m.vol (m.old bb)) (m.vol r) (m.vol r).length 0, 0) := fun x r hr => by
          unfold Sm.since
          rw [hr, if_neg (by simp), if_neg]
          rintro ⟨e1, e2⟩
          obtain ⟨r', e3, _⟩ := find_key gm (hbm.resolve_left e1)
          rw [e3] at e2
          exact e2 rfl
        simp only [go_sem, simprocAttr, t9, e5]
        refine go_cutb (fun ρ k7 => k6.quiet k7 ∧ ρ 0 = .int .i64 N ∧ ρ 5 = .pointer (some ⟨id, 0, none⟩) ∧ ρ 9 = .slice a3 L.length c3 ∧ ρ 56 = .slice (some ⟨jb, off, sp⟩) n4 c4 ∧ ρ 57 = .int .i64 n4 ∧ ρ 58 = .int .i64 i) ?_ ?_
        · refine go_loop (fun z ρ k7 => ∃ j : Nat, j ≤ K.length ∧ z = K.length - j ∧ k6.quiet k7 ∧ ρ 0 = .int .i64 N ∧ ρ 5 = .pointer (some ⟨id, 0, none⟩) ∧ ρ 9 = .slice a3 L.length c3 ∧ ρ 11 = .int .i64 bb ∧ ρ 12 = .slice a6 (m.vol (m.old bb)).length c6 ∧ ρ 56 = .slice (some ⟨jb, off, sp⟩) n4 c4 ∧ ρ 57 = .int .i64 n4 ∧ ρ 58 = .int .i64 i ∧
            ρ 74 = .slice a5 (L.length - 1) c5 ∧ ρ 75 = .int .i64 ((L.length - 1 : Nat) : Int) ∧ ρ 76 = .int .i64 j) K.length ⟨0, by omega, by omega, .refl _, by simp only [go_sem, simprocAttr, t0, t5, t9, t11, t12, t56, t57, t58]⟩ ?_
          rintro z ρ7 k7 ⟨j, hj, rfl, q7, u0, u5, u9, u11, u12, u56, u57, u58, u74, u75, u76⟩
          simp only [go_sem, simprocAttr, u74, u75, u76]
          refine cnd_decide (fun hy2 => ?_) (fun hy2 => ?_)
          · have h2 : j < L.length - 1 := by omega
            have e76 : IntKind.i64.wrap ((j : Int) + 1) = ((j + 1 : Nat) : Int) := by rw [wi64] <;> omega
            have am7 := am6.quiet q7 0
            obtain ⟨jc, of2, sp2, cc2, md2, x, hA2, _, hgx, hxi, _, hdx⟩ := (i5.quiet (q4.trans (q5.trans (q6.trans q7)))).atI h2
            subst hA2
            obtain ⟨r, hr, hrh, _⟩ := find_key gm (hKm x (List.mem_of_getElem? hxi))
            simp only [go_sem, simprocAttr, u0, u5, u11, u74, u76, h2, hgx, hdx]
            refine cl_spec (sSince_ok am7 gm (base := bb) (x := x)) (fun _ _ _ hc => absurd hc (by decide +kernel)) ?_
            rw [since_eq x r hr]
            rintro u k8 ⟨w8, rfl, l8, q8⟩
            obtain ⟨a8, c8, rfl, _⟩ := l8.len
            have am8 := am7.quiet q8 0
            simp only [go_sem, simprocAttr, u0, u5]
            refine cl_spec (sLook_ok am8 gm (x := x) (off := 0) (n := N) (by unfold inJ; omega) (by unfold inJ; omega)) (fun _ _ _ hc => absurd hc (by decide +kernel)) ?_
            have hrd : readL (m.vol r) 0 N = (m.vol r, 0) := by rw [← hmn]; exact readL_all gm r
            rw [hr, hrd]
            simp only [ne_eq, not_true_eq_false, if_false]
            rintro u k9 ⟨w9, rfl, wr9, q9⟩
            obtain ⟨a9, c9, rfl⟩ := wr9.shape
            have hvl : (m.vol (m.old bb)).length = (m.vol r).length := by rw [m.vol_len, m.vol_len]
            have hvn : (m.vol r).length ≤ 1024 := by rw [m.vol_len]; omega
            have ol9 : IsSl rBop (fun _ => True) k9 (shortF (m.vol (m.old bb)) (m.vol r) (m.vol r).length 0) (.slice a8 (shortF (m.vol (m.old bb)) (m.vol r) (m.vol r).length 0).length c8) := ((l8.isSl (S := fun _ => True) (fun _ _ _ => trivial) (fun _ _ => trivial)).quiet q9).imp rBopO_imp
            have qq := q7.trans (q8.trans q9)
            simp only [go_sem, simprocAttr, u12]
            refine cl_spec (rApply_ok (wr6.quiet qq) ol9) (fun _ _ _ hc => absurd hc (by decide +kernel)) ?_
            rw [since_apply hvl hvn]
            rintro u k10 ⟨q10, w10, rfl, l10⟩
            obtain ⟨a10, c10, rfl, _⟩ := l10.len
            simp only [go_sem, simprocAttr]
            refine cl_spec (Words_ok (lst_words l10) (wr9.quiet q10)) (fun _ _ _ hc => absurd hc (by decide +kernel)) ?_
            rintro u k11 ⟨rfl, rfl⟩
            simp only [go_sem, simprocAttr, decide_true, u76, e76]
            refine Hold.mk ⟨K.length - (j + 1), by omega, j + 1, by omega, rfl, qq.trans q10, ?_⟩
            simp only [go_sem, simprocAttr, u0, u5, u9, u11, u12, u56, u57, u58, u74, u75]
          · simp only [go_sem, simprocAttr]
            exact Hold.mk ⟨q7, by simp only [go_sem, simprocAttr, u0, u5, u9, u56, u57, u58]⟩
        · rintro ρ7 k7 ⟨q7, u0, u5, u9, u56, u57, u58⟩
          simp only [go_sem, simprocAttr, u58, e58]
          refine Hold.mk ⟨L4.length - (i + 1), by omega, i + 1, by omega, rfl, q4.trans (q5.trans (q6.trans q7)), ?_⟩
          simp only [go_sem, simprocAttr, u0, u5, u9, u56, u57]
    · simp only [go_sem, simprocAttr]
      exact QQ3.trans q4
end
end Go.Proofs.Ytjkganmkfhciiaa
