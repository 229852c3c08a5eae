/- stream: a byte that was turned. -/
import Derived.Test.YtghohleoodkdgaaStM
set_option linter.unusedSimpArgs false
set_option linter.unusedVariables false
set_option linter.unnecessarySimpa false
set_option maxRecDepth 100000
namespace Go.Proofs.Ytghohleoodkdgaa
open Go.AM
section
variable {h k h' : AHeap} {S S' Z : Nat → Prop} {v w : Value} {id : Nat}
theorem one_rec {m : Rec} {mv : Value} {md : Md} (hi : m.inI) (hv : Words S h m.data mv) : IsSl rRec (fun _ => True) (h.push (.cells (m.cs mv) md)) [m] (.slice (some ⟨h.next, 0, none⟩) 1 1) :=
  .fresh (css := [m.cs mv]) (.cons (rRec_iff.2 ⟨_, rfl, hi, (hv.quiet (.push _ _)).weaken fun _ _ => trivial⟩) .nil) rfl (by decide) trivial (AHeap.get_push_self _ _) (by rw [List.flatten_cons, List.flatten_nil, List.append_nil])
theorem turned_law {l : List Rec} {at_ : Int} {by_ : Nat} (hs : IsSl rRec (· < h.next) h l v) (h8 : by_ ≤ 255) : Does Try.prog 4 #[v, .int .i64 at_, .int .u8 (by_ : Nat)] h (fun u _ => u = .bool true) := by
  obtain ⟨a, c, rfl⟩ := hs.shape
  have hll := hs.len
  refine spec_go mixed Try.func4 rfl Try.results4 (n := Try.f4.ntmps) (by kernel_rfl) (by simp) ?_
  simp only [go_sem, simprocAttr]
  refine cl_spec (Encode_ok hs) (fun _ _ _ hc => absurd hc (by decide +kernel)) ?_
  rintro u k1 ⟨q1, hp⟩
  cases he : encE l with
  | error e =>
    rw [he] at hp
    obtain rfl := hp
    have hne := encE_err he
    simp only [go_sem, simprocAttr]
    refine cl_spec snew_ok (fun _ _ _ hc => absurd hc (by decide +kernel)) ?_
    rintro u k2 ⟨rfl, q2, s2⟩
    simp only [go_sem, simprocAttr, hne, eq_self, decide_true, decide_false]
    refine cl_spec salive_ok (fun u h' hp _ => hp.2) ?_
    rintro u k5 ⟨rfl, q5⟩
    simp only [go_sem, simprocAttr, eq_self, decide_true]
  | ok B =>
    rw [he] at hp
    obtain ⟨hmay, hB, rfl⟩ := encE_inv he
    have hok : okL l := fun r hr => ⟨hmay r hr, (isl_dat hs r hr).1⟩
    have hln := len_enc l
    obtain ⟨bw, rfl, hbl⟩ := hp
    obtain ⟨ab, cb, rfl, _⟩ := hbl.len
    simp only [go_sem, simprocAttr]
    refine cl_spec snew_ok (fun _ _ _ hc => absurd hc (by decide +kernel)) ?_
    rintro u k2 ⟨rfl, q2, s2⟩
    have hk12 := s2.lt
    have hbl2 := hbl.quiet q2
    have q12 := q1.trans q2
    simp only [go_sem, simprocAttr, eq_self, decide_true, decide_false]
    by_cases hz : (encN l).length = 0
    · have hz1 : ((encN l).length : Int) = 0 := by omega
      simp only [go_sem, simprocAttr, hz1, decide_true]
      refine cl_spec salive_ok (fun u h' hp _ => hp.2) ?_
      rintro u k5 ⟨rfl, q5⟩
      simp only [go_sem, simprocAttr, eq_self, decide_true]
    · have hz1 : ¬ ((encN l).length : Int) = 0 := by omega
      by_cases hy0 : by_ = 0
      · subst hy0
        simp only [go_sem, simprocAttr, hz1, decide_true, decide_false]
        refine cl_spec salive_ok (fun u h' hp _ => hp.2) ?_
        rintro u k5 ⟨rfl, q5⟩
        simp only [go_sem, simprocAttr, eq_self, decide_true]
      · have hy1 : ¬ ((by_ : Nat) : Int) = 0 := by omega
        obtain ⟨t1, t2, t3⟩ := tAt_eq (y := at_) (n := (encN l).length) (by omega) (by omega)
        generalize tAt at_ (encN l).length = tt at t1 t3
        have t1' : (tt : Int) < ((encN l).length : Int) := by omega
        obtain ⟨ob, cc, x, rfl, hob, hob2, hgo, hcx, hcl, hxb, hx8, hset⟩ := hbl2.setN t1
        rw [u8_max] at hx8
        obtain ⟨x1, x2⟩ := xor8 (a := x) (b := by_) (by omega) h8
        have hl3 := hset (x ^^^ by_) (by rw [u8_max]; omega)
        have hcl2 : tt + 1 ≤ cc.length := by omega
        simp only [go_sem, simprocAttr, hz1, hy1, decide_false, t2, t3, t1', hgo, hcx, hcl2]
        conv in (occs := *) (IntKind.u8.wrap _) => all_goals change IntKind.u8.wrap (((BitVec.ofInt 8 (x : Int) ^^^ BitVec.ofInt 8 (by_ : Int)).toNat : Nat) : Int)
        rw [x1]
        have q3 : h.quiet (k2.set ob (.cells (cc.set tt (.int .u8 ((x ^^^ by_ : Nat) : Int))) (.tail 1))) := q12.set' hob _
        have f3 : Fw (· = ob) k2 (k2.set ob (.cells (cc.set tt (.int .u8 ((x ^^^ by_ : Nat) : Int))) (.tail 1))) := .set _
        have n3 : (k2.set ob (.cells (cc.set tt (.int .u8 ((x ^^^ by_ : Nat) : Int))) (.tail 1))).next = k2.next := by simp
        have hobk : ob < k1.next := (hbl.blk_ge rfl).2
        have s3 : StAt (k1.next < ·) (k2.set ob (.cells (cc.set tt (.int .u8 ((x ^^^ by_ : Nat) : Int))) (.tail 1))) k1.next [] 0 := by
          obtain ⟨v7, z7, f7, hg7, hb7, hni7, hf7⟩ := s2
          exact ⟨v7, z7, f7, (f3.2 _ hk12 (by omega)).trans hg7, hb7.fr f3 (fun j hj _ e => by omega), hni7, hf7⟩
        generalize k2.set ob (.cells (cc.set tt (.int .u8 ((x ^^^ by_ : Nat) : Int))) (.tail 1)) = k3 at hl3 q3 s3 n3
        clear f3
        have hB3 := hl3.isSl (S := fun _ => True) (fun _ e _ => e.elim) (fun _ _ => trivial)
        have hB256 := hB3.lt256
        have hlB : ((encN l).set tt (x ^^^ by_)).length = (encN l).length := by simp
        generalize hBe : (encN l).set tt (x ^^^ by_) = B' at hB3 hB256 hlB
        refine go_cutb (fun ρ k => ∃ (wh : Nat) (r : Rec), l[wh]? = some r ∧ (encN (l.take wh)).length ≤ tt ∧ tt < (encN (l.take wh)).length + (recB r).length ∧ k3.quiet k ∧ ρ 0 = .slice a l.length c ∧ ρ 7 = .slice (some ⟨ob, 0, some 1⟩) (encN l).length cb ∧ ρ 9 = .pointer (some ⟨k1.next, 0, none⟩) ∧ ρ 10 = .int .i64 wh) ?_ ?_
        · refine go_loop (fun z ρ k => ∃ (wh : Nat), wh ≤ l.length ∧ z = l.length - wh ∧ (encN (l.take wh)).length ≤ tt ∧ k3.quiet k ∧ ρ 0 = .slice a l.length c ∧ ρ 1 = .int .i64 tt ∧ ρ 7 = .slice (some ⟨ob, 0, some 1⟩) (encN l).length cb ∧ ρ 9 = .pointer (some ⟨k1.next, 0, none⟩) ∧ ρ 10 = .int .i64 wh ∧ ρ 11 = .int .i64 (encN (l.take wh)).length) l.length ⟨0, by omega, by omega, by simp [encN], .refl _, by simp only [go_sem, simprocAttr]; simp [encN]⟩ ?_
          rintro z ρ k ⟨wh, hwl, rfl, hend, q, r0, r1, r7, r9, r10, r11⟩
          simp only [go_sem, simprocAttr, r0, r1, r7, r9, r10, r11]
          refine cnd_decide (fun hw => ?_) (fun hw => ?_)
          · have h1 : wh < l.length := by omega
            obtain ⟨b, off, sp, cc2, md, m, mv, hA, _, hg, hmi, hmv, hmI, hle, hdt⟩ := IsSl.atR (hs.quiet (q3.trans q)) h1
            obtain ⟨am, cm, rfl⟩ := hmv.shape
            have hmm := hmay m (List.mem_of_getElem? hmi)
            have hmd := hmm.len
            have hrl := recB_len m
            have hsucc : (encN (l.take (wh + 1))).length = (encN (l.take wh)).length + (recB m).length := by rw [encN_succ hmi, List.length_append]
            have e11 : IntKind.i64.wrap (((encN (l.take wh)).length : Int) + (recB m).length) = ((encN (l.take (wh + 1))).length : Int) := by rw [wi64] <;> omega
            have e9 : IntKind.i64.wrap ((wh : Int) + 1) = ((wh + 1 : Nat) : Int) := by rw [wi64] <;> omega
            simp only [go_sem, simprocAttr, r0, r1, r7, r9, r10, r11, h1, hA, hg, hle, hdt, rc_len, rc_one, rc_take, rc_put]
            have q4 : k.quiet (k.push (.cells (m.cs (.slice am m.data.length cm)) .rw)) := .push _ _
            refine cl_spec (Encode_ok (one_rec hmI hmv)) (fun _ _ _ hc => absurd hc (by decide +kernel)) ?_
            rintro u k5 ⟨q5, hp5⟩
            have e1 : encN [m] = recB m := by simp [encN]
            rw [encE_ok (l := [m]) (by simpa using hmm) (by rw [e1]; omega), e1] at hp5
            obtain ⟨xw, rfl, hx5⟩ := hp5
            obtain ⟨a5, c5, rfl, _⟩ := hx5.len
            have q6 := q.trans (q4.trans q5)
            simp only [go_sem, simprocAttr, r0, r1, r7, r9, r10, r11, e11]
            by_cases hbr : tt < (encN (l.take (wh + 1))).length
            · have hbr' : (tt : Int) < (encN (l.take (wh + 1))).length := by omega
              simp only [go_sem, simprocAttr, hbr, hbr', decide_true, r0, r1, r7, r9, r10, r11]
              exact Hold.mk ⟨wh, m, hmi, hend, by omega, q6, by simp only [go_sem, simprocAttr, r0, r7, r9, r10, hA]⟩
            · have hbr' : ¬ (tt : Int) < (encN (l.take (wh + 1))).length := by omega
              simp only [go_sem, simprocAttr, hbr, hbr', decide_false, r0, r1, r7, r9, r10, r11, e11, e9]
              exact Hold.mk ⟨l.length - (wh + 1), by omega, wh + 1, by omega, rfl, by omega, q6, by simp only [go_sem, simprocAttr, r0, r1, r7, r9, hA]⟩
          · exfalso
            have : wh = l.length := by omega
            subst this
            rw [List.take_length] at hend
            omega
        · rintro ρ k ⟨wh, r, hri, hend, hlt, q, r0, r7, r9, r10⟩
          have hwl := (List.getElem?_eq_some_iff.1 hri).1
          obtain ⟨hrm, hrd⟩ := hok r (List.mem_of_getElem? hri)
          have hsplit : l = l.take wh ++ r :: l.drop (wh + 1) := by rw [← drop_cons hri, List.take_append_drop]
          have hen : encN l = encN (l.take wh) ++ (recB r ++ encN (l.drop (wh + 1))) := by
            conv => lhs; rw [hsplit, encN_app, encN_cons]
          have hB' : B' = encN (l.take wh) ++ (recB r ++ encN (l.drop (wh + 1))).set (tt - (encN (l.take wh)).length) (x ^^^ by_) := by
            rw [← hBe, hen, List.set_append_right _ _ hend]
          have hok1 : okL (l.take wh) := fun y hy => hok y (List.mem_of_mem_take hy)
          have hread := readA_app hok1 ((recB r ++ encN (l.drop (wh + 1))).set (tt - (encN (l.take wh)).length) (x ^^^ by_))
          rw [← hB'] at hread
          have hxk : (recB r ++ encN (l.drop (wh + 1)))[tt - (encN (l.take wh)).length]? = some x := by
            rw [← hxb, hen, List.getElem?_append_right hend]
          have htf := turned_first hrm hrd (c := (recB r ++ encN (l.drop (wh + 1))).set (tt - (encN (l.take wh)).length) (x ^^^ by_)) (t := encN (l.drop (wh + 1))) (k := tt - (encN (l.take wh)).length) (fun y hy => hB256 y (by rw [hB']; exact List.mem_append_right _ hy)) (by simp) (by omega) (by
            rw [List.getElem?_set_self (by rw [List.length_append]; omega), hxk]
            intro e
            exact xor_ne hy0 (Option.some.inj e))
          generalize (readA ((recB r ++ encN (l.drop (wh + 1))).set (tt - (encN (l.take wh)).length) (x ^^^ by_))) = T at hread htf
          simp only [go_sem, simprocAttr, r0, r7, r9, r10]
          have hB4 := hB3.quiet q
          refine cl_spec (Feed_ok (p := B') (s3.quiet q) hB4 (by rw [List.nil_append]; omega)) (fun _ _ _ hc => absurd hc (by decide +kernel)) ?_
          rintro u k4 ⟨f4, hg4, _⟩
          rw [List.nil_append, hread] at hg4
          have q4 : h.quiet k4 := Fw.behind (q3.trans q) f4 (fun j e => by have := q1.1; omega)
          have hl1 : (l.take wh).length = wh := by rw [List.length_take]; omega
          obtain ⟨ag, ng, cg, rfl, hng⟩ : ∃ ax nx cx, u = .slice ax nx cx ∧ nx = (l.take wh ++ T.1).length := by obtain ⟨ax, cx, e⟩ := hg4.shape; exact ⟨ax, _, cx, e, rfl⟩
          rw [List.length_append, hl1] at hng
          have hgl := hg4.len
          have hsl4 := hs.quiet q4
          obtain ⟨a1, c1, e5, s1⟩ := hg4.slice 8 rfl (l := 0) (m := wh) (by omega) (by omega)
          have e5 : slI 8 ag ng cg (some 0) (some (wh : Int)) = some (.slice a1 wh c1) := e5
          have s1 : IsSl rRec (k.next ≤ ·) k4 (l.take wh) (.slice a1 wh c1) := by
            have s1 : IsSl rRec (k.next ≤ ·) k4 ((l.take wh ++ T.1).take wh) (.slice a1 wh c1) := s1
            rwa [List.take_left' hl1] at s1
          obtain ⟨a2, c2, e6, s2⟩ := hsl4.slice 8 rfl (l := 0) (m := wh) (by omega) (by omega)
          have e6 : slI 8 a l.length c (some 0) (some (wh : Int)) = some (.slice a2 wh c2) := e6
          have s2 : IsSl rRec (· < h.next) k4 (l.take wh) (.slice a2 wh c2) := s2
          have hge : (wh : Int) ≤ (ng : Int) := by omega
          simp only [go_sem, simprocAttr, r0, r7, r9, r10, hge, decide_true, e5, e6]
          refine cl_spec (Same_ok s1 s2) (fun u h' hp _ => hp.2) ?_
          rintro u k5 ⟨rfl, q5⟩
          simp only [go_sem, simprocAttr, eq_self, decide_true, r0, r10]
          rcases htf with e | ⟨r', rs, e, hne⟩
          · rw [e] at hng
            obtain rfl : ng = wh := by simpa using hng
            simp only [go_sem, simprocAttr, eq_self, decide_true]
            refine cl_spec salive_ok (fun u h' hp _ => hp.2) ?_
            rintro u k6 ⟨rfl, q6⟩
            simp only [go_sem, simprocAttr, eq_self, decide_true]
          · rw [e] at hng hg4
            have hne2 : ¬ (ng : Int) = wh := by simp at hng; omega
            have hwg : wh < ng := by simp at hng; omega
            obtain ⟨b, off, sp, cc2, md, m, mv, hA, _, hg, hmi, hmv, hmI, hle, hdt⟩ := IsSl.atR (hg4.quiet q5) hwg
            obtain rfl : m = r' := by
              rw [List.getElem?_append_right (by omega), hl1, Nat.sub_self] at hmi
              simpa using hmi.symm
            obtain ⟨am, cm, rfl⟩ := hmv.shape
            obtain ⟨b', off', sp', cc', md', m', mv', hA', _, hg', hmi', hmv', hmI', hle', hdt'⟩ := IsSl.atR (hsl4.quiet q5) hwl
            obtain rfl : m' = r := by rw [hri] at hmi'; cases hmi'; rfl
            obtain ⟨am', cm', rfl⟩ := hmv'.shape
            simp only [go_sem, simprocAttr, r0, r7, r9, r10, hne2, decide_false, hA, hA', hg, hg', hle, hle', hdt, hdt', hwg, hwl, rc_len, rc_one, rc_take, rc_put]
            refine cl_spec (One_ok hmv hmv') (fun u h' hp _ => hp.2) ?_
            rintro u k6 ⟨rfl, q6⟩
            simp only [go_sem, simprocAttr, hne, decide_false, decide_true]
            refine cl_spec salive_ok (fun u h' hp _ => hp.2) ?_
            rintro u k7 ⟨rfl, q7⟩
            simp only [go_sem, simprocAttr, eq_self, decide_true]
end
end Go.Proofs.Ytghohleoodkdgaa
