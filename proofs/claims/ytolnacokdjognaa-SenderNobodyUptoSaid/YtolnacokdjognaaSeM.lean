/- sender: made, its loads, what they are parsed to, the document's streams, and the four laws. -/
import Derived.Test.YtolnacokdjognaaStM
set_option linter.unusedSimpArgs false
set_option linter.unusedVariables false
set_option linter.unnecessarySimpa false
set_option maxRecDepth 100000
namespace Go.Proofs.Ytolnacokdjognaa
open Go.AM
def SnAt (S : Nat → Prop) (h : AHeap) (id : Nat) (l : List Rec) : Prop := S id ∧ ∃ v, h.get id = .cells [v] .rw ∧ IsSl rB.list (fun j => S j ∧ j ≠ id) h (l.map recB) v
section
variable {h k h' : AHeap} {S S' Z : Nat → Prop} {v w : Value} {id : Nat} {l : List Rec}
theorem one_rec' {m : Rec} {mv : Value} {md : Md} (hi : m.inI) (hv : Words S h m.data mv) : IsSl rRec (fun _ => True) (h.push (.cells (m.cs mv) md)) [m] (.slice (some ⟨h.next, 0, none⟩) 1 1) :=
  .fresh (css := [m.cs mv]) (.cons (rRec_iff.2 ⟨_, rfl, hi, (hv.quiet (.push _ _)).weaken fun _ _ => trivial⟩) .nil) rfl (by decide) trivial (AHeap.get_push_self _ _) (by rw [List.flatten_cons, List.flatten_nil, List.append_nil])
theorem SnAt.lt (s : SnAt S h id l) : id < h.next := by obtain ⟨_, v, hg, _⟩ := s; exact AHeap.lt_of_alive h (by rw [hg]; simp)
theorem SnAt.mono (s : SnAt S h id l) (hm : ∀ j, S j → j < h.next → S' j ∧ h'.get j = h.get j) : SnAt S' h' id l := by
  have hlt := s.lt
  obtain ⟨hz, v, hg, hs⟩ := s
  exact ⟨(hm id hz hlt).1, v, (hm id hz hlt).2.trans hg, hs.mono fun j hj hl => ⟨⟨(hm j hj.1 hl).1, hj.2⟩, (hm j hj.1 hl).2⟩⟩
theorem SnAt.quiet (s : SnAt S h id l) (q : h.quiet h') : SnAt S h' id l := s.mono fun j hj hl => ⟨hj, q.2 j hl⟩
theorem New_ok {hd : Rec} {ops : List Bop} (hi : hd.inI) (hv : Words (· < h.next) h hd.data v) (hs : IsSl rBop (· < h.next) h ops w) (hn : ops.length ≤ 1048576) (hb : ∀ o ∈ ops, o.data.length ≤ 1048576) (hb0 : hd.data.length ≤ 1048576) :
    Does Try.prog 7 #[.agg (hd.cs v).toArray, w] h (fun u h' => h.quiet h' ∧ if bldE hd ops = 0 then ∃ id, u = .tuple #[.pointer (some ⟨id, 0, none⟩), .int .i64 0] ∧ SnAt (h.next ≤ ·) h' id (buildL hd ops) else u = .tuple #[.pointer none, .int .i64 (bldE hd ops)]) := by
  obtain ⟨a, c, rfl⟩ := hv.shape
  obtain ⟨a2, c2, rfl⟩ := hs.shape
  refine spec_go mixed Try.func7 rfl Try.results7 (n := Try.f7.ntmps) (by kernel_rfl) (by simp) ?_
  simp only [go_sem, simprocAttr, rc_len, rc_one, rc_take, rc_put]
  have q0 : h.quiet (h.push (.cells (hd.cs (.slice a hd.data.length c)) .rw)) := .push _ _
  have n0 : (h.push (.cells (hd.cs (.slice a hd.data.length c)) .rw)).next = h.next + 1 := by simp
  generalize h.push (.cells (hd.cs (.slice a hd.data.length c)) .rw) = k0 at q0 n0
  refine cl_spec (Build_ok hi ((hv.weaken (S' := (· < k0.next)) (fun j hj => by omega)).quiet q0) ((hs.weaken (S' := (· < k0.next)) (fun j hj => by omega)).quiet q0) hn hb hb0) (fun u h' hp _ => hp.1) ?_
  rintro u k1 ⟨q1, x, rfl, hx⟩
  by_cases he : bldE hd ops = 0
  · rw [if_pos he] at hx
    have hck := bld_check he
    have hmay := check_may hck
    have hbl : (buildL hd ops).length = ops.length + 2 := by unfold buildL; simp
    obtain ⟨L, hL⟩ : ∃ L, buildL hd ops = L := ⟨_, rfl⟩
    rw [hL] at hx hmay hbl
    clear hck
    obtain ⟨ax, nx, cx, rfl, hnx⟩ : ∃ ax nx cx, x = .slice ax nx cx ∧ nx = L.length := by obtain ⟨ax, cx, e⟩ := hx.shape; exact ⟨ax, _, cx, e, rfl⟩
    subst hnx
    simp only [go_sem, simprocAttr, he, eq_self, decide_true, decide_false]
    have qp : k1.quiet (k1.push (.cells [.slice none 0 0] .rw)) := .push _ _
    have gp : (k1.push (.cells [.slice none 0 0] .rw)).get k1.next = .cells [.slice none 0 0] .rw := by simp
    have np : (k1.push (.cells [.slice none 0 0] .rw)).next = k1.next + 1 := by simp
    generalize k1.push (.cells [.slice none 0 0] .rw) = kb at qp gp np
    refine go_loop (fun z ρ k => ∃ (i : Nat) (rv : Value), i ≤ L.length ∧ z = L.length - i ∧ Fw (· = k1.next) kb k ∧ k.get k1.next = .cells [rv] .rw ∧ Lst rB.list kb.next (kb.next ≤ ·) k ((L.take i).map recB) rv ∧ ρ 8 = .pointer (some ⟨k1.next, 0, none⟩) ∧ ρ 24 = .slice ax L.length cx ∧ ρ 25 = .int .i64 L.length ∧ ρ 26 = .int .i64 i) L.length ⟨0, _, by omega, by omega, .refl _ _, gp, .nil _ _ _ _, by simp only [go_sem, simprocAttr]⟩ ?_
    rintro z ρ k ⟨i, rv, hii, rfl, f, gk, hl, r8, r24, r25, r26⟩
    simp only [go_sem, simprocAttr, r8, r24, r25, r26]
    refine cnd_decide (fun hy => ?_) (fun hy => ?_)
    · have h1 : i < L.length := by omega
      have q1k : k1.quiet k := Fw.behind qp f (fun j e => by omega)
      obtain ⟨b, off, sp, cc, md, m, mv, hA, _, hg, hmi, hmv, hmI, hle, hdt⟩ := IsSl.atR (hx.quiet q1k) h1
      obtain ⟨am, cm, rfl⟩ := hmv.shape
      have hmm := hmay m (List.mem_of_getElem? hmi)
      have hmd := hmm.len
      have hrl := recB_len m
      have e9 : IntKind.i64.wrap ((i : Int) + 1) = ((i + 1 : Nat) : Int) := by rw [wi64] <;> omega
      simp only [go_sem, simprocAttr, r8, r24, r25, r26, h1, hA, hg, hle, hdt, rc_len, rc_one, rc_take, rc_put]
      have q4 : k.quiet ((k.push (.cells (m.cs (.slice am m.data.length cm)) .rw)).push (.cells (m.cs (.slice am m.data.length cm)) .rw)) := (AHeap.quiet.push _ _).push' _
      have ho := one_rec' (md := .rw) hmI (hmv.quiet (.push k (.cells (m.cs (.slice am m.data.length cm)) .rw)))
      rw [AHeap.next_push] at ho
      refine cl_spec (Encode_ok ho) (fun _ _ _ hc => absurd hc (by decide +kernel)) ?_
      rintro u k5 ⟨q5, hp5⟩
      have e1 : encN [m] = recB m := by simp [encN]
      rw [encE_ok (l := [m]) (by simpa using hmm) (by rw [e1]; omega), e1] at hp5
      obtain ⟨xw, rfl, hx5⟩ := hp5
      obtain ⟨a5, c5, rfl, _⟩ := hx5.len
      have q45 := q4.trans q5
      have hkk := AHeap.lt_of_alive k (i := k1.next) (by rw [gk]; simp)
      have gk5 := (q45.2 _ hkk).trans gk
      have qp5 : k5.quiet (k5.push (.cells [.slice a5 (recB m).length c5] .rw)) := .push _ _
      have hxb : Bytes (k.next ≤ ·) (k5.push (.cells [.slice a5 (recB m).length c5] .rw)) (recB m) (.slice a5 (recB m).length c5) := ((hx5.isSl (S := (k.next ≤ ·)) (fun _ e _ => e.elim) (fun j e => by have := q4.1; omega))).quiet qp5
      obtain ⟨ar, nr, cr, rfl⟩ : ∃ ax nx cx, rv = .slice ax nx cx := by obtain ⟨ax, cx, e, _⟩ := hl.len; exact ⟨ax, _, cx, e⟩
      obtain ⟨v', k6, e6, hl6, f6, _⟩ := (hl.quiet (q45.trans qp5)).app1 (y := recB m) (cs := [.slice a5 (recB m).length c5]) (bytes := 24) 1 rfl ⟨_, rfl, hxb.mono fun j hj _ => ⟨⟨by have := f.1; omega, fun e => by have := (hl.blk_ge e).2; omega⟩, rfl⟩⟩ (by simp; omega) (by simp; omega) (by have := f.1; have := (q45.trans qp5).1; omega)
      obtain ⟨a6, n6, c6, rfl⟩ : ∃ ax nx cx, v' = .slice ax nx cx := by obtain ⟨ax, cx, e, _⟩ := hl6.len; exact ⟨ax, _, cx, e⟩
      have F6 : Fw (fun j => blk (Value.slice ar nr cr) = some j) k k6 := Fw.after (q45.trans qp5) f6
      have gk6 := (F6.2 _ hkk (fun e => by have := (hl.blk_ge e).1; omega)).trans gk
      have hk6 := AHeap.lt_of_alive k6 (i := k1.next) (by rw [gk6]; simp)
      simp only [go_sem, simprocAttr, r8, r24, r25, r26, gk5, e6, gk6, e9]
      have fs : Fw (· = k1.next) k6 (k6.set k1.next (.cells [.slice a6 n6 c6] .rw)) := .set _
      refine Hold.mk ⟨L.length - (i + 1), by omega, i + 1, .slice a6 n6 c6, by omega, rfl, (f.trans F6 (fun _ _ e => e) (fun j hj e => by have := (hl.blk_ge e).1; omega)).trans fs (fun _ _ e => e) (fun _ _ e => e), AHeap.get_set_self _ _ hk6, ?_, by simp only [go_sem, simprocAttr, r8, r24, r25, hA]⟩
      rw [List.take_add_one, hmi]
      have := Lst.fr hl6 fs (fun j hj e => by have : kb.next ≤ j := hj.elim (fun e => e) (fun e => e); omega)
      simpa using this
    · have : i = L.length := by omega
      subst this
      rw [List.take_length] at hl
      have q1k : k1.quiet k := Fw.behind qp f (fun j e => by omega)
      simp only [go_sem, simprocAttr, r8, if_pos he, hL]
      exact ⟨(q0.trans q1).trans q1k, k1.next, rfl, by have := (q0.trans q1).1; omega, rv, gk, hl.isSl (fun j e _ => ⟨by have := (q0.trans q1).1; omega, by omega⟩) (fun j e => ⟨by have := (q0.trans q1).1; omega, by omega⟩)⟩
  · obtain ⟨ax, nx, cx, rfl⟩ : ∃ ax nx cx, x = .slice ax nx cx := by obtain ⟨ax, cx, e⟩ := hx.shape; exact ⟨ax, _, cx, e⟩
    simp only [go_sem, simprocAttr, he, decide_true, if_neg he]
    exact q0.trans q1
theorem Many_ok (s : SnAt S h id l) : Does Try.prog 10 #[.pointer (some ⟨id, 0, none⟩)] h (fun u h' => u = .int .i64 l.length ∧ h' = h) := by
  obtain ⟨hz, v, hg, hs⟩ := s
  obtain ⟨a, n, c, rfl, hn⟩ : ∃ a n c, v = .slice a n c ∧ n = l.length := by obtain ⟨ax, cx, e⟩ := hs.shape; exact ⟨ax, _, cx, e, by simp⟩
  subst hn
  refine spec_go mixed Try.func10 rfl Try.results10 (n := Try.f10.ntmps) (by kernel_rfl) (by simp) ?_
  simp only [go_sem, simprocAttr, hg]
end
def seg (l : List Rec) (n m : Nat) : List Rec := (l.drop n).take (m - n)
theorem seg_one {l : List Rec} {n : Nat} {r : Rec} (h : l[n]? = some r) : seg l n (n + 1) = [r] := by
  unfold seg
  rw [drop_cons h, show n + 1 - n = 1 by omega]; rfl
theorem seg_succ {l : List Rec} {n m : Nat} {r : Rec} (hn : n ≤ m) (h : l[m]? = some r) : seg l n (m + 1) = seg l n m ++ [r] := by
  unfold seg
  rw [show m + 1 - n = m - n + 1 by omega, List.take_add_one, List.getElem?_drop, show n + (m - n) = m by omega, h]; rfl
theorem enc_flat (l : List Rec) : (l.map recB).flatten = encN l := by unfold encN; rw [List.flatMap_def]
section
variable {h k h' : AHeap} {S S' Z : Nat → Prop} {v w : Value} {id : Nat} {l : List Rec}
theorem LstC.lst {lo : Nat} {xs : List Nat} {v : Value} (hl : LstC lo h xs xs.length v) (hn : xs.length ≤ 1099511627776) : Lst rB lo (fun _ => False) h xs v := by
  obtain ⟨h1, h2, ⟨e, rfl⟩ | ⟨ob, c, rfl, h3, h4, h5, h6⟩⟩ := hl
  · obtain rfl : xs = [] := List.eq_nil_of_length_eq_zero e
    exact .nil _ _ _ _
  · refine ⟨xs.map fun n => [.int .u8 (n : Nat)], nat_all2 h2, by omega, .inr ⟨ob, rfl, h3, ?_⟩⟩
    rw [h4, nat_flat, ← h6, List.take_of_length_le (by omega)]; rfl
theorem ConcatL_ok {ls : List (List Nat)} {v : Value} (hx : IsSl (Rep.list rB) S h ls v) (hn : ls.flatten.length ≤ 1099511627776) : Does Try.prog 21 #[v] h (fun u h' => h.quiet h' ∧ Lst rB h.next (fun _ => False) h' ls.flatten u) := by
  obtain ⟨a, c, rfl⟩ := hx.shape
  have hl := hx.len
  refine spec_go mixed Try.func21 rfl Try.results21 (n := Try.f21.ntmps) (by kernel_rfl) (by simp) ?_
  simp only [go_sem, simprocAttr]
  refine go_loop (fun z ρ k => ∃ i : Nat, i ≤ ls.length ∧ z = ls.length - i ∧ k = h ∧ ρ 0 = .slice a ls.length c ∧ ρ 3 = .int .i64 ((ls.take i).flatten.length : Nat) ∧ ρ 9 = .slice a ls.length c ∧ ρ 10 = .int .i64 ls.length ∧ ρ 11 = .int .i64 i) ls.length
    ⟨0, by omega, by omega, rfl, by simp only [go_sem, simprocAttr]; simp⟩ ?_
  rintro z ρ k ⟨i, hi, rfl, rfl, r0, r3, r9, r10, r11⟩
  simp only [go_sem, simprocAttr, r0, r3, r9, r10, r11]
  refine cnd_decide (fun hx' => ?_) (fun hx' => ?_)
  · have h1 : i < ls.length := by omega
    obtain ⟨b, off, sp, cc, md, x, u, rfl, _, hg, hxi, hxu, hc⟩ := hx.atL h1
    obtain ⟨ax, cx, rfl⟩ := hxu.shape
    have e9 : IntKind.i64.wrap ((i : Int) + 1) = ((i + 1 : Nat) : Int) := by rw [wi64] <;> omega
    have ht := congrArg List.length (sum_take ls hxi)
    rw [List.length_append] at ht
    have hb := flat_take_le ls (i + 1)
    have e3 : IntKind.i64.wrap (((ls.take i).flatten.length : Nat) + (x.length : Nat) : Int) = ((ls.take (i + 1)).flatten.length : Nat) := by rw [wi64] <;> omega
    simp only [go_sem, simprocAttr, r0, r3, r9, r10, r11, h1, hg, hc, e3, e9]
    exact Hold.mk ⟨ls.length - (i + 1), by omega, i + 1, by omega, rfl, rfl, by simp only [go_sem, simprocAttr, r0, r9, r10]⟩
  · have : i = ls.length := by omega
    subst this
    rw [List.take_length] at r3
    simp only [go_sem, simprocAttr, r0, r3]
    refine cl_spec (Grow_ok hn) (fun _ _ _ hc => absurd hc (by decide +kernel)) ?_
    rintro u k1 ⟨q1, hl1⟩
    simp only [go_sem, simprocAttr, r0]
    refine go_loop (fun z ρ k2 => ∃ (i : Nat) (u : Value), i ≤ ls.length ∧ z = ls.length - i ∧ k.quiet k2 ∧ LstC k.next k2 (ls.take i).flatten ls.flatten.length u ∧ ρ 6 = u ∧ ρ 25 = .slice a ls.length c ∧ ρ 26 = .int .i64 ls.length ∧ ρ 27 = .int .i64 i) ls.length
      ⟨0, u, by omega, by omega, q1, by simpa using hl1, by simp only [go_sem, simprocAttr]⟩ ?_
    rintro z ρ k2 ⟨i, u, hi, rfl, qk, hl2, r6, r25, r26, r27⟩
    simp only [go_sem, simprocAttr, r6, r25, r26, r27]
    refine cnd_decide (fun hx' => ?_) (fun hx' => ?_)
    · have h1 : i < ls.length := by omega
      obtain ⟨b, off, sp, cc, md, x, xu, rfl, _, hg, hxi, hxu, hc⟩ := (hx.quiet qk).atL h1
      obtain ⟨ax, cx, rfl⟩ := hxu.shape
      have e9 : IntKind.i64.wrap ((i : Int) + 1) = ((i + 1 : Nat) : Int) := by rw [wi64] <;> omega
      have ht := congrArg List.length (sum_take ls hxi)
      rw [List.length_append] at ht
      have hb := flat_take_le ls (i + 1)
      obtain ⟨u4, k4, e4, hl4, hf4⟩ := hl2.app (ys := x) (fun n hn => by have := hxu.vals rfl n hn; exact this) (by omega)
      simp only [go_sem, simprocAttr, r6, r25, r26, r27, h1, hg, hc, hxu.acellsN, e4, e9]
      refine Hold.mk ⟨ls.length - (i + 1), by omega, i + 1, u4, by omega, rfl, Fw.behind qk hf4 (fun j e => e), ?_, by simp only [go_sem, simprocAttr, r25, r26]⟩
      rw [sum_take ls hxi]; exact hl4
    · have : i = ls.length := by omega
      subst this
      rw [List.take_length] at hl2
      simp only [go_sem, simprocAttr, r6]
      exact ⟨qk, LstC.lst hl2 (by omega)⟩
theorem Load_ok (s : SnAt S h id l) (hmay : ∀ r ∈ l, r.may) {n : Nat} (hn : n < l.length) (hl : l.length ≤ 1048578) : Does Try.prog 11 #[.pointer (some ⟨id, 0, none⟩), .int .i64 n] h (fun u h' => h.quiet h' ∧ ∃ m w, n < m ∧ m ≤ l.length ∧ (encN (seg l n m)).length ≤ 1100 ∧ (m = l.length ∨ 1100 < (encN (seg l n (m + 1))).length) ∧ u = .tuple #[w, .int .i64 m, .int .i64 0] ∧ Lst rB h.next (fun _ => False) h' (leB 8 n ++ encN (seg l n m)) w) := by
  have hlt := s.lt
  refine spec_go mixed Try.func11 rfl Try.results11 (n := Try.f11.ntmps) (by kernel_rfl) (by simp) ?_
  simp only [go_sem, simprocAttr]
  refine cl_spec (Many_ok s) (fun _ _ _ hc => absurd hc (by decide +kernel)) ?_
  rintro u k ⟨rfl, rfl⟩
  have c0 : ¬ (l.length : Int) = 0 := by omega
  have c1 : ¬ (n : Int) < 0 := by omega
  have c2 : ¬ (l.length : Int) ≤ (n : Int) := by omega
  simp only [go_sem, simprocAttr, c0, c1, decide_false]
  refine cl_spec (Many_ok s) (fun _ _ _ hc => absurd hc (by decide +kernel)) ?_
  rintro u k ⟨rfl, rfl⟩
  have s' := s
  obtain ⟨hz, v, hg, hs⟩ := s'
  obtain ⟨a, nn, c, rfl, hnn⟩ : ∃ a n c, v = .slice a n c ∧ n = l.length := by obtain ⟨ax, cx, e⟩ := hs.shape; exact ⟨ax, _, cx, e, by simp⟩
  subst hnn
  obtain ⟨b, off, sp, cc, md, x, xv, hA, _, hgb, hxi, hx, hc⟩ := hs.atL hn
  obtain ⟨ax, cx, rfl⟩ := hx.shape
  obtain ⟨r, hr, rfl⟩ : ∃ r, l[n]? = some r ∧ x = recB r := by
    rw [List.getElem?_map] at hxi
    cases hr : l[n]? with
    | none => rw [hr] at hxi; cases hxi
    | some r => rw [hr] at hxi; exact ⟨r, rfl, by simpa using hxi.symm⟩
  have hrl := recB_len r
  have hrm := (hmay r (List.mem_of_getElem? hr)).len
  have e9 : IntKind.i64.wrap ((n : Int) + 1) = ((n + 1 : Nat) : Int) := by rw [wi64] <;> omega
  have hsz0 : (encN (seg l n (n + 1))).length = (recB r).length := by rw [seg_one hr]; simp [encN]
  have helem : ∀ m, m < l.length → ∃ b off sp cc md r ax cx, a = some ⟨b, off, sp⟩ ∧ k.get b = .cells cc md ∧ l[m]? = some r ∧ (recB r).length ≤ 588 ∧ cc[off + m]? = some (.slice ax (recB r).length cx) := fun m hm => by
    obtain ⟨b, off, sp, cc, md, x, xv, hA, _, hgb, hxi, hx, hc⟩ := hs.atL hm
    obtain ⟨ax, cx, rfl⟩ := hx.shape
    rw [List.getElem?_map] at hxi
    cases hr : l[m]? with
    | none => rw [hr] at hxi; cases hxi
    | some r =>
      rw [hr] at hxi
      obtain rfl : recB r = x := by simpa using hxi
      have hrl := recB_len r
      have hrm := (hmay r (List.mem_of_getElem? hr)).len
      exact ⟨b, off, sp, cc, md, r, ax, cx, hA, hgb, rfl, by omega, hc⟩
  simp only [go_sem, simprocAttr, c2, decide_false, hg, hA, hgb, hc, hn, e9]
  refine go_cutb (fun ρ k' => k' = k ∧ ∃ m, n < m ∧ m ≤ l.length ∧ (encN (seg l n m)).length ≤ 1100 ∧ (m = l.length ∨ 1100 < (encN (seg l n (m + 1))).length) ∧ ρ 0 = .pointer (some ⟨id, 0, none⟩) ∧ ρ 1 = .int .i64 n ∧ ρ 7 = .int .i64 m) ?_ ?_
  · refine go_loop (fun z ρ k' => k' = k ∧ ∃ m, n < m ∧ m ≤ l.length ∧ z = l.length - m ∧ (encN (seg l n m)).length ≤ 1100 ∧ ρ 0 = .pointer (some ⟨id, 0, none⟩) ∧ ρ 1 = .int .i64 n ∧ ρ 7 = .int .i64 m ∧ ρ 8 = .int .i64 (encN (seg l n m)).length) (l.length - (n + 1)) ⟨rfl, n + 1, by omega, by omega, rfl, by omega, by simp only [go_sem, simprocAttr, hsz0]⟩ ?_
    rintro z ρ k' ⟨rfl, m, hnm, hml, rfl, hsz, r0, r1, r7, r8⟩
    simp only [go_sem, simprocAttr, r0, r1, r7, r8]
    refine cl_spec (Many_ok s) (fun _ _ _ hc => absurd hc (by decide +kernel)) ?_
    rintro u k'' ⟨rfl, rfl⟩
    by_cases hm : m < l.length
    · have hm' : (m : Int) < (l.length : Int) := by omega
      obtain ⟨b2, off2, sp2, cc2, md2, r2, ax2, cx2, hA2, hgb2, hr2, hrl2, hc2⟩ := helem m hm
      have hs2 : (encN (seg l n (m + 1))).length = (encN (seg l n m)).length + (recB r2).length := by rw [seg_succ (by omega) hr2, encN_app, List.length_append]; simp [encN]
      have e10 : IntKind.i64.wrap (((encN (seg l n m)).length : Int) + (recB r2).length) = ((encN (seg l n (m + 1))).length : Int) := by rw [wi64] <;> omega
      have e11 : IntKind.i64.wrap ((m : Int) + 1) = ((m + 1 : Nat) : Int) := by rw [wi64] <;> omega
      simp only [go_sem, simprocAttr, r0, r1, r7, r8, hm, hm', decide_true, hg, hA2, hgb2, hc2, e10]
      by_cases h11 : (encN (seg l n (m + 1))).length ≤ 1100
      · have h11' : ((encN (seg l n (m + 1))).length : Int) ≤ 1100 := by omega
        simp only [go_sem, simprocAttr, r0, r1, r7, r8, h11, h11', hm, hm', decide_true, hg, hA2, hgb2, hc2, e10, e11]
        exact Hold.mk ⟨l.length - (m + 1), by omega, rfl, m + 1, by omega, by omega, rfl, h11, by simp only [go_sem, simprocAttr, r0, r1]⟩
      · have h11' : ¬ ((encN (seg l n (m + 1))).length : Int) ≤ 1100 := by omega
        simp only [go_sem, simprocAttr, h11, h11', decide_false, r0, r1, r7]
        exact Hold.mk ⟨rfl, m, hnm, hml, hsz, .inr (by omega), by simp only [go_sem, simprocAttr, r0, r1, r7]⟩
    · have hm' : ¬ (m : Int) < (l.length : Int) := by omega
      simp only [go_sem, simprocAttr, hm, hm', decide_false, r0, r1, r7]
      exact Hold.mk ⟨rfl, m, hnm, hml, hsz, .inl (by omega), by simp only [go_sem, simprocAttr, r0, r1, r7]⟩
  · rintro ρ k' ⟨rfl, m, hnm, hml, hsz, hmax, r0, r1, r7⟩
    have eu : IntKind.u64.wrap (n : Int) = n := by rw [wu64] <;> omega
    simp only [go_sem, simprocAttr, r0, r1, r7, eu]
    have q1 : k'.quiet ((k'.push (.cells [.slice none 0 0] .rw)).push (.cells [.int .u64 (n : Nat)] .rw)) := (AHeap.quiet.push _ _).push' _
    have hW : WrAt (k'.next + 1) ((k'.push (.cells [.slice none 0 0] .rw)).push (.cells [.int .u64 (n : Nat)] .rw)) k'.next (.slice none 0 0) [] := ⟨by rw [AHeap.get_push_lt _ _ (by simp)]; simp, .nil _ _ _ _, by simp⟩
    have h1 := IsSl.fresh1 (k := .u64) (h := k'.push (.cells [.slice none 0 0] .rw)) (x := n) (md := .rw) (by rw [u64_max]; omega)
    rw [AHeap.next_push] at h1
    refine cl_spec (Put_ok hW (by simp) h1 (fun j hj _ => ⟨by omega, by simp⟩) (by simp)) (fun _ _ _ hc => absurd hc (by decide +kernel)) ?_
    rintro w' k2 ⟨rfl, u2, hW2, f2, n2⟩
    rw [show [] ++ [n].flatMap (leB 8) = leB 8 n by simp] at hW2
    have q2 : k'.quiet k2 := Fw.behind q1 f2 (fun j e => e.elim (fun e => by omega) (fun e => by cases e))
    simp only [go_sem, simprocAttr, r0, r1, r7]
    refine cl_spec (BytesL_ok hW2 (by rw [leB_length]; omega)) (fun u h' hp _ => hp.1) ?_
    rintro u k3 ⟨q3, hl3⟩
    have hb3 := hl3.isSl (S := fun _ => True) (fun _ e _ => e.elim) (fun _ _ => trivial)
    obtain ⟨ab, nb, cb, rfl⟩ : ∃ ax nx cx, u = .slice ax nx cx := by obtain ⟨ax, cx, e⟩ := hb3.shape; exact ⟨ax, _, cx, e⟩
    have q23 := q2.trans q3
    have hg3 := (q23.2 _ hlt).trans hg
    obtain ⟨a4, c4, e4, s4⟩ := (hs.quiet q23).slice 1 rfl (l := n) (m := m) (by omega) hml
    rw [show ((l.map recB).drop n).take (m - n) = (seg l n m).map recB by unfold seg; rw [← List.map_drop, ← List.map_take]] at s4
    simp only [go_sem, simprocAttr, r0, r1, r7, hg3, e4]
    refine cl_spec (ConcatL_ok s4 (by rw [enc_flat]; omega)) (fun u h' hp _ => hp.1) ?_
    rintro u k5 ⟨q5, hl5⟩
    rw [enc_flat] at hl5
    have hb5 := hl5.isSl (S := fun _ => True) (fun _ e _ => e.elim) (fun _ _ => trivial)
    obtain ⟨a5, n5, c5, rfl⟩ : ∃ ax nx cx, u = .slice ax nx cx := by obtain ⟨ax, cx, e⟩ := hb5.shape; exact ⟨ax, _, cx, e⟩
    simp only [go_sem, simprocAttr, r0, r1, r7]
    have q6 : k5.quiet (k5.push (.cells [.slice ab nb cb, .slice a5 n5 c5] .rw)) := .push _ _
    refine cl_spec (ConcatL_ok (two (md := .rw) (h := k5) (S := fun _ => True) (hb3.quiet q5) hb5) (by simp [leB_length]; omega)) (fun _ _ _ hc => absurd hc (by decide +kernel)) ?_
    rintro u k7 ⟨q7, hl7⟩
    rw [show [leB 8 n, encN (seg l n m)].flatten = leB 8 n ++ encN (seg l n m) by simp] at hl7
    simp only [go_sem, simprocAttr, r7]
    have qq := (q23.trans q5).trans q6
    exact ⟨qq.trans q7, m, u, hnm, hml, hsz, hmax, rfl, hl7.mono qq.1 (Nat.le_refl _) (fun _ e _ _ => e.elim) (fun _ _ _ => rfl)⟩
end
/-- A byte of the first record was turned: nothing is read from there. -/
theorem turned_next {r : Rec} (hm : r.may) (hd : ∀ x ∈ r.data, x < 18446744073709551616) {t : List Nat} {k y : Nat} (hb : ∀ x ∈ recB r ++ t, x < 256) (hk : k < (recB r).length) (hy : y ≠ 0) (hy8 : y ≤ 255) : nextN ((recB r ++ t).set k (((recB r ++ t)[k]?.getD 0) ^^^ y)) = .wait ∨ ∃ e, nextN ((recB r ++ t).set k (((recB r ++ t)[k]?.getD 0) ^^^ y)) = .bad e := by
  have hrl := recB_len r
  have hsl := seal_len r
  have hle := hm.len
  obtain ⟨x, hx⟩ : ∃ x, (recB r ++ t)[k]? = some x := ⟨_, List.getElem?_eq_getElem (by rw [List.length_append]; omega)⟩
  have hx8 := hb x (List.mem_of_getElem? hx)
  rw [hx]
  simp only [Option.getD_some]
  have hxy := xor_ne (a := x) hy
  have hxl := xor_le (a := x) (y := y) (by omega) hy8
  have hc256 : ∀ z ∈ (recB r ++ t).set k (x ^^^ y), z < 256 := fun z hz => by
    rcases List.mem_or_eq_of_mem_set hz with hz | rfl
    · exact hb z hz
    · omega
  have hck : ((recB r ++ t).set k (x ^^^ y))[k]? = some (x ^^^ y) := List.getElem?_set_self (by rw [List.length_append]; omega)
  cases hn : nextN ((recB r ++ t).set k (x ^^^ y)) with
  | wait => exact .inl rfl
  | bad e => exact .inr ⟨e, rfl⟩
  | got r' n =>
    exfalso
    unfold nextN at hn
    split at hn
    · cases hn
    · split at hn
      · cases hn
      · split at hn
        · cases hn
        · rename_i h8 h700 hlen
          split at hn
          · cases hn
          · rename_i r2 hdec
            have hrest : ∀ j, j ≠ k → ((recB r ++ t).set k (x ^^^ y))[j]? = (recB r ++ t)[j]? := fun j hj => List.getElem?_set_ne (Ne.symm hj)
            generalize hce : (recB r ++ t).set k (x ^^^ y) = c at *
            have e := dec_some (fun z hz => hc256 z (List.mem_of_mem_drop (List.mem_of_mem_take hz))) hdec
            have en := congrArg List.length e
            have s2 := seal_len r2
            rw [List.length_take, List.length_drop] at en
            have hclen : 8 ≤ c.length := by omega
            by_cases hk8 : k < 8
            · have hd8 : c.drop 8 = sealN r.body ++ t := by
                rw [← hce, List.drop_set_of_lt hk8]
                unfold recB
                rw [List.append_assoc, List.drop_left' (leB_length _ _)]
              rw [hd8] at e
              have e56 : (leB 8 r2.data.length) = leB 8 r.data.length := by
                have f1 : ∀ q : Rec, (q.body.drop 56).take 8 = leB 8 q.data.length := fun q => by
                  have := flat8_at (ns := q.nums) (i := 7) (n := q.data.length) rfl
                  rw [show q.body = q.nums.flatMap (leB 8) from rfl, show 56 = 8 * 7 from rfl, this, List.take_left' (leB_length _ _)]
                have f2 : ∀ q : Rec, ((sealN q.body).drop 56).take 8 = leB 8 q.data.length := fun q => by
                  have := q.body_len
                  rw [← f1 q]
                  unfold sealN
                  rw [List.drop_append_of_le_length (by omega), List.take_append_of_le_length (by rw [List.length_drop]; omega)]
                have g := congrArg (fun l => (l.drop 56).take 8) e
                rw [f2 r2, List.drop_take, List.take_take, Nat.min_eq_left (by omega), List.drop_append_of_le_length (by omega), List.take_append_of_le_length (by rw [List.length_drop]; omega), f2 r] at g
                exact g.symm
              have hl2 : r2.data.length = r.data.length := by
                have q1 : leN (leB 8 r2.data.length) = r2.data.length := leN_leB 8 _ (by omega)
                have q2 : leN (leB 8 r.data.length) = r.data.length := leN_leB 8 _ (by omega)
                rw [← q1, ← q2, e56]
              have en2 : leN (c.take 8) = (sealN r.body).length := by omega
              have e8 := leB_leN (c.take 8) (fun z hz => hc256 z (List.mem_of_mem_take hz))
              rw [List.length_take, Nat.min_eq_left hclen, en2, ← recB_take r t] at e8
              have := congrArg (fun l => l[k]?) e8
              rw [List.getElem?_take, if_pos hk8, List.getElem?_take, if_pos hk8, hx, hck] at this
              exact hxy (Option.some.inj this).symm
            · have h8e : c.take 8 = leB 8 (sealN r.body).length := by
                rw [← recB_take r t, ← hce, List.take_set_of_le (by omega)]
              rw [h8e, recB_n r hm] at hdec e
              have hseg : (c.drop 8).take (sealN r.body).length = (sealN r.body).set (k - 8) (((sealN r.body)[k - 8]?.getD 0) ^^^ y) := by
                have hxs : (sealN r.body)[k - 8]? = some x := by
                  have h1 : (recB r ++ t)[k]? = (recB r)[k]? := List.getElem?_append_left hk
                  rw [hx] at h1
                  unfold recB at h1
                  rw [List.getElem?_append_right (by rw [leB_length]; omega), leB_length] at h1
                  exact h1.symm
                rw [hxs, Option.getD_some, ← hce, List.drop_set, if_neg (by omega)]
                unfold recB
                rw [List.append_assoc, List.drop_left' (leB_length _ _), List.take_set, List.take_left' rfl]
              rw [hseg] at hdec
              have hop := turn_open (x := r.body) (k := k - 8) (fun z hz => by
                have := hb z (List.mem_append_left _ (by unfold recB sealN; simp [hz])); omega) (by omega) hy hy8
              unfold decodeN at hdec
              rw [hop] at hdec
              cases hdec
/-- Bytes that are read to their end. -/
def cleanN (x : List Nat) : Prop := (readA x).1 ≠ [] ∧ (readA x).2.1 = [] ∧ (readA x).2.2 = 0
section
variable {h k h' : AHeap} {S S' Z : Nat → Prop} {v w : Value} {id : Nat} {l : List Rec}
theorem readA_ne0 (x : List Nat) : (readA x).2.2 = 0 ∨ (readA x).2.2 ≠ 0 := by omega
theorem sFaultW_ok {b : List Nat} {why : Int} (s : StAt S h id b why) : Does Try.prog 29 #[.pointer (some ⟨id, 0, none⟩)] h (fun u h' => (∃ f, u = .agg #[.int .i64 why, .int .i64 f] ∧ (why = 0 → f = 0)) ∧ h.quiet h') := by
  have hlt := s.lt
  refine spec_go mixed Try.func29 rfl Try.results29 (n := Try.f29.ntmps) (by kernel_rfl) (by simp) ?_
  simp only [go_sem, simprocAttr]
  refine cl_spec (sok_ok (s.quiet (.push _ _))) (fun _ _ _ hc => absurd hc (by decide +kernel)) ?_
  rintro u k ⟨rfl, rfl⟩
  obtain ⟨v, z, f, hg, hb, hn, hf⟩ := s
  simp only [go_sem, simprocAttr, AHeap.get_push_lt _ _ hlt, hg]
  exact ⟨f, rfl, hf⟩
theorem Parse_ok {n : Nat} {X : List Nat} (hb : Bytes S h (leB 8 n ++ X) v) (hn : n ≤ 2147483648) (hl : X.length ≤ 1100) : Does Try.prog 12 #[v] h (fun u h' => h.quiet h' ∧ ((cleanN X ∧ ∃ w, u = .tuple #[.int .i64 n, w, .int .i64 0] ∧ IsSl rRec (h.next ≤ ·) h' (readA X).1 w) ∨ (¬ cleanN X ∧ u = .tuple #[.int .i64 0, .slice none 0 0, .int .i64 5]))) := by
  obtain ⟨a, c, rfl⟩ := hb.shape
  have hlen : (leB 8 n ++ X).length = 8 + X.length := by rw [List.length_append, leB_length]
  refine spec_go mixed Try.func12 rfl Try.results12 (n := Try.f12.ntmps) (by kernel_rfl) (by simp) ?_
  simp only [go_sem, simprocAttr]
  refine cl_spec (new_ok hb.bound (fun j hj => hj.2)) (fun _ _ _ hc => absurd hc (by decide +kernel)) ?_
  rintro u k1 ⟨rfl, e1, hr1⟩
  have q1 : h.quiet k1 := by rw [e1]; exact .push _ _
  clear e1
  simp only [go_sem, simprocAttr]
  refine cl_spec (int_ok hr1 (most := 2147483648) (by decide)) (fun _ _ _ hc => absurd hc (by decide +kernel)) ?_
  rintro u k2 ⟨rfl, hr2, f2⟩
  have q2 : h.quiet k2 := Fw.behind q1 f2 (fun j e => by omega)
  have e2 := RdS.int_at (s := ⟨leB 8 n ++ X, 0, 0, 0⟩) (n := n) (rest := X) rfl hn rfl rfl
  rw [e2] at hr2 ⊢
  have c1 : ¬ (1108 : Int) < ((leB 8 n ++ X).length : Int) := by omega
  simp only [go_sem, simprocAttr, c1, decide_false]
  refine cl_spec (fault_ok hr2) (fun _ _ _ hc => absurd hc (by decide +kernel)) ?_
  rintro u k3 ⟨rfl, q3⟩
  simp only [go_sem, simprocAttr, eq_self, decide_true, decide_false]
  refine cl_spec snew_ok (fun _ _ _ hc => absurd hc (by decide +kernel)) ?_
  rintro u k4 ⟨rfl, q4, s4⟩
  have q24 := (q2.trans q3).trans q4
  obtain ⟨a5, c5, e5, s5⟩ := (hb.quiet q24).slice 1 rfl (l := 8) (m := (leB 8 n ++ X).length) (by omega) (Nat.le_refl _)
  have s5 : Bytes S k4 X (.slice a5 ((leB 8 n ++ X).length - 8) c5) := by
    rwa [List.take_of_length_le (by simp), List.drop_left' (leB_length _ _)] at s5
  have e5 : slI 1 a (leB 8 n ++ X).length c (some 8) (some ((leB 8 n ++ X).length : Int)) = some (.slice a5 ((leB 8 n ++ X).length - 8) c5) := e5
  generalize (leB 8 n ++ X).length = N at *
  simp only [go_sem, simprocAttr, e5]
  have hk4 := s4.lt
  refine cl_spec (Feed_ok s4 s5 (by rw [List.nil_append]; omega)) (fun _ _ _ hc => absurd hc (by decide +kernel)) ?_
  rintro u k5 ⟨f5, hk5, s6⟩
  rw [List.nil_append] at hk5 s6
  have q5 : h.quiet k5 := Fw.behind q24 f5 (fun j e => by have := (q2.trans q3).1; omega)
  obtain ⟨ag, ng, cg, rfl, hng⟩ : ∃ ax nx cx, u = .slice ax nx cx ∧ nx = (readA X).1.length := by obtain ⟨ax, cx, e⟩ := hk5.shape; exact ⟨ax, _, cx, e, rfl⟩
  have hgT : IsSl rRec (h.next ≤ ·) k5 (readA X).1 (.slice ag ng cg) := hk5.weaken fun j hj => Nat.le_trans q24.1 hj
  simp only [go_sem, simprocAttr]
  by_cases g1 : (readA X).1 = []
  · have g1' : ng = 0 := by rw [hng, g1]; rfl
    subst g1'
    simp only [go_sem, simprocAttr, eq_self, decide_true]
    exact ⟨q5, .inr fun e => e.1 g1⟩
  · have g1' : ¬ (ng : Int) = 0 := by have := List.length_pos_iff.2 g1; omega
    simp only [go_sem, simprocAttr, g1', decide_false]
    refine cl_spec (sWaits_ok s6) (fun _ _ _ hc => absurd hc (by decide +kernel)) ?_
    rintro u k6 ⟨rfl, rfl⟩
    by_cases g2 : (readA X).2.1 = []
    · have g2' : (readA X).2.1.length = 0 := by rw [g2]; rfl
      simp only [go_sem, simprocAttr, g2', decide_false]
      refine cl_spec (sFaultW_ok s6) (fun _ _ _ hc => absurd hc (by decide +kernel)) ?_
      rintro u k7 ⟨⟨f, rfl, hf⟩, q7⟩
      by_cases g3 : (readA X).2.2 = 0
      · obtain rfl := hf g3
        simp only [go_sem, simprocAttr, g3, eq_self, decide_true, decide_false]
        exact ⟨q5.trans q7, .inl ⟨⟨g1, g2, g3⟩, _, rfl, hgT.quiet q7⟩⟩
      · simp only [go_sem, simprocAttr, g3, decide_true, decide_false]
        exact ⟨q5.trans q7, .inr fun e => g3 e.2.2⟩
    · have g2' : (0 : Int) < (readA X).2.1.length := by have := List.length_pos_iff.2 g2; omega
      simp only [go_sem, simprocAttr, g2', decide_true]
      exact ⟨q5, .inr fun e => g2 e.2.1⟩
theorem Index_ok {xs : List Int} {a : Option Addr} {n c : Nat} {x : Int} (hs : IsSl rI S h xs (.slice a n c)) :
    Does Try.prog 63 #[.slice a n c, .int .i64 x] h (fun u h' => h' = h ∧ ∃ z, u = .int .i64 z ∧ (0 ≤ z ↔ x ∈ xs)) := by
  have hll := hs.len
  obtain rfl := hll.1
  refine spec_go mixed Try.func63 rfl Try.results63 (n := Try.f63.ntmps) (by kernel_rfl) (by simp) ?_
  simp only [go_sem, simprocAttr]
  refine go_loop (fun z ρ k => ∃ i : Nat, i ≤ xs.length ∧ z = xs.length - i ∧ k = h ∧ x ∉ xs.take i ∧ ρ 0 = .slice a xs.length c ∧ ρ 1 = .int .i64 x ∧ ρ 7 = .int .i64 xs.length ∧ ρ 8 = .int .i64 i) xs.length ⟨0, by omega, by omega, rfl, by simp, by simp only [go_sem, simprocAttr]⟩ ?_
  rintro z ρ k ⟨i, hi, rfl, rfl, hall, r0, r1, r7, r8⟩
  simp only [go_sem, simprocAttr, r0, r1, r7, r8]
  refine cnd_decide (fun hy => ?_) (fun hy => ?_)
  · have h1 : i < xs.length := by omega
    obtain ⟨b, off, sp, cc, md, y, hA, _, hg, hxi, _, hc⟩ := hs.atI h1
    have e9 : IntKind.i64.wrap ((i : Int) + 1) = ((i + 1 : Nat) : Int) := by rw [wi64] <;> omega
    simp only [go_sem, simprocAttr, r0, r1, r7, r8, hA, hg, hc, h1, hy]
    by_cases hp : x = y
    · simp only [go_sem, simprocAttr, hp, eq_self, decide_true]
      exact ⟨i, rfl, by simp; exact List.mem_of_getElem? hxi⟩
    · simp only [go_sem, simprocAttr, r0, r1, r7, r8, hp, decide_false, e9]
      refine Hold.mk ⟨xs.length - (i + 1), by omega, i + 1, by omega, rfl, rfl, fun hm => ?_, by simp only [go_sem, simprocAttr, r0, r1, r7, hA]⟩
      rw [List.take_add_one, hxi] at hm
      rcases List.mem_append.1 hm with hm | hm
      · exact hall hm
      · exact hp (by simpa using hm)
  · have : i = xs.length := by omega
    subst this
    rw [List.take_length] at hall
    simp only [go_sem, simprocAttr]
    exact ⟨-1, rfl, by simp; exact hall⟩
theorem Base_ok {xs : List Int} {a : Option Addr} {n c : Nat} {x : Int} (hs : IsSl rI S h xs (.slice a n c)) (hx : x ∈ xs) :
    Does Try.prog 17 #[.int .i64 x, .slice a n c] h (fun u h' => u = .int .i64 x ∧ h' = h) := by
  have hc : Does Try.prog 39 #[.slice a n c, .int .i64 x] h (fun u h' => u = .bool true ∧ h' = h) := by
    refine spec_go mixed Try.func39 rfl Try.results39 (n := Try.f39.ntmps) (by kernel_rfl) (by simp) ?_
    simp only [go_sem, simprocAttr]
    refine cl_spec (Index_ok hs) (fun _ _ _ hc => absurd hc (by decide +kernel)) ?_
    rintro u k ⟨rfl, z, rfl, e⟩
    simp only [go_sem, simprocAttr, e.2 hx, decide_true]
  refine spec_go mixed Try.func17 rfl Try.results17 (n := Try.f17.ntmps) (by kernel_rfl) (by simp) ?_
  simp only [go_sem, simprocAttr]
  refine cl_spec hc (fun _ _ _ hc => absurd hc (by decide +kernel)) ?_
  rintro u k ⟨rfl, rfl⟩
  simp only [go_sem, simprocAttr]
end
theorem seg_all (l : List Rec) : seg l 0 l.length = l := by unfold seg; simp
theorem clean_enc {l : List Rec} (ho : okL l) (hl : l ≠ []) : cleanN (encN l) ∧ (readA (encN l)).1 = l := by
  have e := read_all ho
  unfold cleanN
  rw [e]
  exact ⟨⟨hl, rfl, rfl⟩, rfl⟩
/-- A small stream is one load. -/
theorem whole_load {l : List Rec} {m : Nat} (hm : m ≤ l.length) (h0 : 0 < m) (hx : m = l.length ∨ 1100 < (encN (seg l 0 (m + 1))).length) (hs : (encN l).length ≤ 1100) : m = l.length := by
  rcases hx with e | e
  · exact e
  · exfalso
    have := encN_le l (m + 1)
    unfold seg at e
    rw [List.drop_zero, Nat.sub_zero] at e
    omega
def bL : List Rec := buildL aHd [⟨2, 1, 2, []⟩]
theorem bE : bldE aHd [⟨2, 1, 2, []⟩] = 0 := by decide +kernel
theorem bMay : ∀ r ∈ bL, r.may := by decide +kernel
theorem bDat : ∀ r ∈ bL, ∀ x ∈ r.data, x < 18446744073709551616 := by decide +kernel
theorem bOk : okL bL := fun r hr => ⟨bMay r hr, bDat r hr⟩
theorem bLen : (encN bL).length = 228 := by
  show (encN [aHd, recO ⟨2, 1, 2, []⟩, tailN 1]).length = 228
  rw [encN_cons, encN_cons, encN_cons, List.length_append, List.length_append, List.length_append, recB_len, recB_len, recB_len]
  rfl
theorem split_at : ∀ {l : List Rec} {k : Nat}, k < (encN l).length → ∃ l1 r l3, l = l1 ++ r :: l3 ∧ (encN l1).length ≤ k ∧ k < (encN l1).length + (recB r).length
  | [], k, h => by simp [encN] at h
  | r :: l, k, h => by
    rw [encN_cons, List.length_append] at h
    by_cases hk : k < (recB r).length
    · exact ⟨[], r, l, rfl, by simp [encN], by simpa [encN] using hk⟩
    · obtain ⟨l1, r', l3, e, h1, h2⟩ := split_at (l := l) (k := k - (recB r).length) (by omega)
      exact ⟨r :: l1, r', l3, by rw [e]; rfl, by rw [encN_cons, List.length_append]; omega, by rw [encN_cons, List.length_append]; omega⟩
/-- A byte was turned: it is not read to the end. -/
theorem turned_clean {l : List Rec} (ho : okL l) (hb : ∀ x ∈ encN l, x < 256) {k y : Nat} (hk : k < (encN l).length) (hy : y ≠ 0) (hy8 : y ≤ 255) : ¬ cleanN ((encN l).set k (((encN l)[k]?.getD 0) ^^^ y)) := by
  obtain ⟨l1, r, l3, rfl, h1, h2⟩ := split_at hk
  have hen : encN (l1 ++ r :: l3) = encN l1 ++ (recB r ++ encN l3) := by rw [encN_app, encN_cons]
  rw [hen] at hb ⊢
  have hg : (encN l1 ++ (recB r ++ encN l3))[k]? = (recB r ++ encN l3)[k - (encN l1).length]? := List.getElem?_append_right h1
  rw [hg, List.set_append_right _ _ h1]
  obtain ⟨hm, hd⟩ := ho r (by simp)
  have ht := turned_next hm hd (t := encN l3) (k := k - (encN l1).length) (fun z hz => hb z (List.mem_append_right _ hz)) (by omega) hy hy8
  generalize hc : (recB r ++ encN l3).set (k - (encN l1).length) (((recB r ++ encN l3)[k - (encN l1).length]?.getD 0) ^^^ y) = c at ht
  have hcl : c ≠ [] := fun e => by
    rw [e] at hc
    have hrl := recB_len r
    have : (recB r).length + (encN l3).length = 0 := by simpa only [List.length_set, List.length_append, List.length_nil] using congrArg List.length hc
    omega
  have hr := readA_app (l := l1) (fun x hx => ho x (by simp [hx])) c
  rintro ⟨_, e2, e3⟩
  rw [hr] at e2 e3
  simp only at e2 e3
  rcases ht with hw | ⟨e, he⟩
  · rw [readA_wait hw] at e2
    exact hcl e2
  · rw [readA_eq, he] at e3
    exact bad_ne he e3
theorem seg_len {l : List Rec} {n m : Nat} (h : m ≤ l.length) : (seg l n m).length = m - n := by unfold seg; rw [List.length_take, List.length_drop]; omega
theorem u8_exE (z : Int) : ∃ y : Nat, IntKind.u8.wrap z = (y : Nat) ∧ (y : Int) ≤ IntKind.u8.max := ⟨(z % 256).toNat, by rw [wrap_u8]; omega, by rw [u8_max]; omega⟩
section
variable {h k h' : AHeap} {S S' Z : Nat → Prop} {v w : Value} {id : Nat} {l : List Rec}
theorem ealive_ok : Does Try.prog 8 #[] h (fun u h' => u = .bool true ∧ h.quiet h') := by
  refine spec_go mixed Try.func8 rfl Try.results8 (n := Try.f8.ntmps) (by kernel_rfl) (by simp) ?_
  simp only [go_sem, simprocAttr]
  have q0 : h.quiet (h.push (.cells [.int .i64 2, .int .i64 1, .int .i64 2, .slice none 0 0] .rw)) := .push _ _
  have hw : IsSl rBop (· < (h.push (.cells [.int .i64 2, .int .i64 1, .int .i64 2, .slice none 0 0] .rw)).next) (h.push (.cells [.int .i64 2, .int .i64 1, .int .i64 2, .slice none 0 0] .rw)) [⟨2, 1, 2, []⟩] (.slice (some ⟨h.next, 0, none⟩) 1 1) :=
    .fresh (css := [[.int .i64 2, .int .i64 1, .int .i64 2, .slice none 0 0]]) (.cons (rBop_iff.2 ⟨_, rfl, by unfold Bop.inI inJ; decide, .nil _ _ _⟩) .nil) rfl (by decide) (by simp) (AHeap.get_push_self _ _) rfl
  generalize h.push (.cells [.int .i64 2, .int .i64 1, .int .i64 2, .slice none 0 0] .rw) = k0 at q0 hw
  refine cl_spec (New_ok (hd := aHd) (v := .slice none 0 0) (by unfold Rec.inI inJ; decide) (.nil _ _ _) hw (by decide) (by decide) (by decide)) (fun _ _ _ hc => absurd hc (by decide +kernel)) ?_
  rintro u k1 ⟨q1, hp⟩
  rw [if_pos bE] at hp
  obtain ⟨id, rfl, hsn⟩ := hp
  change SnAt (k0.next ≤ ·) k1 id bL at hsn
  simp only [go_sem, simprocAttr, eq_self, decide_true, decide_false]
  refine cl_spec (Load_ok (n := 0) hsn bMay (by decide) (by decide)) (fun _ _ _ hc => absurd hc (by decide +kernel)) ?_
  rintro u k2 ⟨q2, m, bw, h1, h2, h3, h4, rfl, hb⟩
  obtain rfl := whole_load h2 h1 h4 (by rw [bLen]; decide)
  rw [seg_all] at hb
  have hb2 := hb.isSl (S := fun _ => True) (fun _ e _ => e.elim) (fun _ _ => trivial)
  obtain ⟨ab, nb, cb, rfl⟩ : ∃ ax nx cx, bw = .slice ax nx cx := by obtain ⟨ax, cx, e⟩ := hb2.shape; exact ⟨ax, _, cx, e⟩
  simp only [go_sem, simprocAttr]
  refine cl_spec (Parse_ok hb2 (by decide) (by rw [bLen]; decide)) (fun _ _ _ hc => absurd hc (by decide +kernel)) ?_
  rintro u k3 ⟨q3, hp⟩
  obtain ⟨hcl, hrd⟩ := clean_enc bOk (by decide)
  rw [hrd] at hp
  rcases hp with ⟨_, w, rfl, hw3⟩ | ⟨hn, _⟩
  · obtain ⟨aw, nw, cw, rfl, hnw⟩ : ∃ ax nx cx, w = .slice ax nx cx ∧ nx = 3 := by obtain ⟨ax, cx, e⟩ := hw3.shape; exact ⟨ax, _, cx, e, rfl⟩
    subst hnw
    have hbl : bL.length = 3 := rfl
    simp only [go_sem, simprocAttr, hbl, eq_self, decide_true]
    refine cl_spec (Many_ok ((hsn.quiet q2).quiet q3)) (fun _ _ _ hc => absurd hc (by decide +kernel)) ?_
    rintro u k4 ⟨rfl, rfl⟩
    simp only [go_sem, simprocAttr, hbl, eq_self, decide_true]
    have hm : IsSl rI (fun _ => True) (k4.push (.cells [.int .i64 3, .int .i64 4] .rw)) [3, 4] (.slice (some ⟨k4.next, 0, none⟩) 2 2) :=
      .fresh (css := [[.int .i64 3], [.int .i64 4]]) (.cons ⟨rfl, by decide, by decide⟩ (.cons ⟨rfl, by decide, by decide⟩ .nil)) rfl (by decide) trivial (AHeap.get_push_self _ _) rfl
    refine cl_spec (Base_ok (x := 4) hm (by decide)) (fun _ _ _ hc => absurd hc (by decide +kernel)) ?_
    rintro u k5 ⟨rfl, rfl⟩
    simp only [go_sem, simprocAttr, eq_self, decide_true]
    exact (((q0.trans q1).trans q2).trans q3).trans (.push _ _)
  · exact absurd hcl hn
theorem turned_elaw {hd : Rec} {ops : List Bop} {x0 x1 x2 : Int} (hi : hd.inI) (hv : Words (· < h.next) h hd.data v) (hs : IsSl rBop (· < h.next) h ops w) (hn : ops.length ≤ 1048576) (hb : ∀ o ∈ ops, o.data.length ≤ 1048576) (hb0 : hd.data.length ≤ 1048576) :
    Does Try.prog 4 #[.agg (hd.cs v).toArray, w, .agg #[.int .i64 x0, .int .i64 x1, .int .i64 x2]] h (fun u _ => u = .bool true) := by
  obtain ⟨a, c, rfl⟩ := hv.shape
  obtain ⟨a2, c2, rfl⟩ := hs.shape
  obtain ⟨y, ey, hy8⟩ := u8_exE x2
  rw [u8_max] at hy8
  refine spec_go mixed Try.func4 rfl Try.results4 (n := Try.f4.ntmps) (by kernel_rfl) (by simp) ?_
  simp only [go_sem, simprocAttr, rc_len, rc_one, rc_take, rc_put]
  have q0 : h.quiet ((h.push (.cells (hd.cs (.slice a hd.data.length c)) .rw)).push (.cells [.int .i64 x0, .int .i64 x1, .int .i64 x2] .rw)) := (AHeap.quiet.push _ _).push' _
  have g0 : ((h.push (.cells (hd.cs (.slice a hd.data.length c)) .rw)).push (.cells [.int .i64 x0, .int .i64 x1, .int .i64 x2] .rw)).get h.next = .cells (hd.cs (.slice a hd.data.length c)) .rw := by simp only [go_sem, simprocAttr]
  have g1 : ((h.push (.cells (hd.cs (.slice a hd.data.length c)) .rw)).push (.cells [.int .i64 x0, .int .i64 x1, .int .i64 x2] .rw)).get (h.next + 1) = .cells [.int .i64 x0, .int .i64 x1, .int .i64 x2] .rw := by simp only [go_sem, simprocAttr]
  have n0 : ((h.push (.cells (hd.cs (.slice a hd.data.length c)) .rw)).push (.cells [.int .i64 x0, .int .i64 x1, .int .i64 x2] .rw)).next = h.next + 2 := by simp
  generalize (h.push (.cells (hd.cs (.slice a hd.data.length c)) .rw)).push (.cells [.int .i64 x0, .int .i64 x1, .int .i64 x2] .rw) = k0 at q0 g0 g1 n0
  refine cl_spec (New_ok hi ((hv.weaken (S' := (· < k0.next)) (fun j hj => by omega)).quiet q0) ((hs.weaken (S' := (· < k0.next)) (fun j hj => by omega)).quiet q0) hn hb hb0) (fun u h' hp _ => hp.1) ?_
  rintro u k1 ⟨q1, hp⟩
  have g11 := (q1.2 _ (by omega)).trans g1
  by_cases he : bldE hd ops = 0
  · rw [if_pos he] at hp
    obtain ⟨id, rfl, hsn⟩ := hp
    have hmay := check_may (bld_check he)
    have hLl : (buildL hd ops).length = ops.length + 2 := by unfold buildL; simp
    have hdat : ∀ r ∈ buildL hd ops, ∀ x ∈ r.data, x < 18446744073709551616 := fun r hr => by
      unfold buildL at hr
      rcases List.mem_cons.1 hr with rfl | hr
      · exact hv.lt64
      · rcases List.mem_append.1 hr with hr | hr
        · obtain ⟨o, ho, rfl⟩ := List.mem_map.1 hr
          obtain ⟨i, hi⟩ := List.mem_iff_getElem?.1 ho
          obtain ⟨_, _, _, _, _, x, lv, _, _, _, hxi, hlv, _, _, _⟩ := IsSl.atO hs (List.getElem?_eq_some_iff.1 hi).1
          rw [hi] at hxi; cases hxi
          exact hlv.lt64
        · obtain rfl : r = tailN ops.length := by simpa using hr
          intro x hx; cases hx
    have hok : okL (buildL hd ops) := fun r hr => ⟨hmay r hr, hdat r hr⟩
    generalize buildL hd ops = L at *
    have c0 : ¬ (L.length : Int) = 0 := by omega
    simp only [go_sem, simprocAttr, eq_self, decide_true, decide_false]
    refine cl_spec (Many_ok hsn) (fun u h' hp _ => by rw [hp.2]; exact .refl _) ?_
    rintro u k2 ⟨rfl, rfl⟩
    simp only [go_sem, simprocAttr, c0, decide_false, g11, ey]
    by_cases hy0 : y = 0
    · subst hy0
      simp only [go_sem, simprocAttr, decide_true]
      refine cl_spec ealive_ok (fun u h' hp _ => hp.2) ?_
      rintro u k5 ⟨rfl, q5⟩
      simp only [go_sem, simprocAttr, eq_self, decide_true]
    · have hy1 : ¬ ((y : Nat) : Int) = 0 := by omega
      obtain ⟨t1, t2, t3⟩ := tAt_eq (y := x0) (n := L.length) (by omega) (by omega)
      generalize tAt x0 L.length = n at t1 t3
      simp only [go_sem, simprocAttr, hy1, decide_false, g11]
      refine cl_spec (Many_ok hsn) (fun u h' hp _ => by rw [hp.2]; exact .refl _) ?_
      rintro u k2 ⟨rfl, rfl⟩
      simp only [go_sem, simprocAttr, c0, decide_false]
      refine cl_spec (Many_ok hsn) (fun u h' hp _ => by rw [hp.2]; exact .refl _) ?_
      rintro u k2 ⟨rfl, rfl⟩
      simp only [go_sem, simprocAttr, t2]
      refine cl_spec (Many_ok hsn) (fun u h' hp _ => by rw [hp.2]; exact .refl _) ?_
      rintro u k2 ⟨rfl, rfl⟩
      simp only [go_sem, simprocAttr, c0, decide_false, t3]
      refine cl_spec (Load_ok hsn hmay t1 (by omega)) (fun _ _ _ hc => absurd hc (by decide +kernel)) ?_
      rintro u k3 ⟨q3, m, bw, h1, h2, h3, h4, rfl, hb3⟩
      have g13 := (q3.2 _ (AHeap.lt_of_alive k2 (by rw [g11]; simp))).trans g11
      have hsl := seg_len (n := n) h2
      have hokS : okL (seg L n m) := fun r hr => hok r (by unfold seg at hr; exact List.mem_of_mem_drop (List.mem_of_mem_take hr))
      generalize seg L n m = sg at *
      have hX76 : 76 ≤ (encN sg).length := by
        cases sg with
        | nil => simp at hsl; omega
        | cons r l => rw [encN_cons, List.length_append, recB_len]; omega
      have hBl : (leB 8 n ++ encN sg).length = 8 + (encN sg).length := by rw [List.length_append, leB_length]
      obtain ⟨p1, p2, p3⟩ := tAt_eq (y := x1) (n := (encN sg).length) (by omega) (by omega)
      generalize tAt x1 (encN sg).length = kk at p1 p3
      obtain ⟨ab, cb, rfl, _⟩ := hb3.len
      have hB256 : ∀ x ∈ encN sg, x < 256 := fun x hx => (hb3.isSl (S := fun _ => True) (fun _ e _ => e.elim) (fun _ _ => trivial)).lt256 x (List.mem_append_right _ hx)
      obtain ⟨ob, cc, x, rfl, hob, hob2, hgo, hcx, hcl, hxb, hx8, hset⟩ := hb3.setN (i := 8 + kk) (by omega)
      rw [u8_max] at hx8
      have hxk : (encN sg)[kk]? = some x := by rw [← hxb, List.getElem?_append_right (by rw [leB_length]; omega), leB_length, show 8 + kk - 8 = kk by omega]
      obtain ⟨z1, z2⟩ := xor8 (a := x) (b := y) (by omega) (by omega)
      have hl4 := hset (x ^^^ y) (by rw [u8_max]; omega)
      have hset2 : (leB 8 n ++ encN sg).set (8 + kk) (x ^^^ y) = leB 8 n ++ (encN sg).set kk (x ^^^ y) := by
        rw [List.set_append_right _ _ (by rw [leB_length]; omega), leB_length, show 8 + kk - 8 = kk by omega]
      rw [hset2] at hl4
      have hncl := turned_clean hokS hB256 p1 hy0 (by omega : y ≤ 255)
      rw [hxk, Option.getD_some] at hncl
      have e8 : IntKind.i64.wrap (((leB 8 n ++ encN sg).length : Int) - 8) = (encN sg).length := by rw [wi64] <;> omega
      have e9 : IntKind.i64.wrap (8 + (kk : Int)) = ((8 + kk : Nat) : Int) := by rw [wi64] <;> omega
      have c9 : ¬ ((leB 8 n ++ encN sg).length : Int) < 9 := by omega
      have cX : ¬ ((encN sg).length : Int) = 0 := by omega
      have cK : 8 + kk < (leB 8 n ++ encN sg).length := by omega
      have cK2 : 8 + kk + 1 ≤ cc.length := by omega
      have hob4 : h.next + 1 ≠ ob := by have := (hsn.lt); have := q1.1; omega
      simp only [go_sem, simprocAttr, eq_self, decide_true, decide_false, c9, e8]
      simp only [go_sem, simprocAttr, g13, cX, p2, p3, e9, cK, hgo, hcx, ey, cK2]
      conv in (occs := *) (IntKind.u8.wrap _) => all_goals change IntKind.u8.wrap (((BitVec.ofInt 8 (x : Int) ^^^ BitVec.ofInt 8 (y : Int)).toNat : Nat) : Int)
      rw [z1]
      have hb4 := hl4.isSl (S := fun _ => True) (fun _ e _ => e.elim) (fun _ _ => trivial)
      generalize k3.set ob (.cells (cc.set (8 + kk) (.int .u8 ((x ^^^ y : Nat) : Int))) (.tail 1)) = k4 at hb4
      refine cl_spec (Parse_ok hb4 (by omega) (by rw [List.length_set]; omega)) (fun _ _ _ hc => absurd hc (by decide +kernel)) ?_
      rintro u k5 ⟨q5, hp⟩
      rcases hp with ⟨hcl2, _⟩ | ⟨_, rfl⟩
      · exact absurd hcl2 hncl
      · simp only [go_sem, simprocAttr, eq_self, decide_true]
        refine cl_spec ealive_ok (fun u h' hp _ => hp.2) ?_
        rintro u k6 ⟨rfl, q6⟩
        simp only [go_sem, simprocAttr, eq_self, decide_true]
  · rw [if_neg he] at hp
    obtain rfl := hp
    simp only [go_sem, simprocAttr, he, decide_true]
    refine cl_spec ealive_ok (fun u h' hp _ => hp.2) ?_
    rintro u k5 ⟨rfl, q5⟩
    simp only [go_sem, simprocAttr, eq_self, decide_true]
end
def NoSn (h : AHeap) (p : Option Addr) : Prop := p = none ∨ ∃ id, p = some ⟨id, 0, none⟩ ∧ h.get id = .cells [.slice none 0 0] .rw
def cL : List Rec := buildL aHd [⟨1, 1, 0, [5]⟩]
theorem cE : bldE aHd [⟨1, 1, 0, [5]⟩] = 0 := by decide +kernel
theorem cMay : ∀ r ∈ cL, r.may := by decide +kernel
theorem cDat : ∀ r ∈ cL, ∀ x ∈ r.data, x < 18446744073709551616 := by decide +kernel
theorem cOk : okL cL := fun r hr => ⟨cMay r hr, cDat r hr⟩
theorem cLen : (encN cL).length = 236 := by
  show (encN [aHd, recO ⟨1, 1, 0, [5]⟩, tailN 1]).length = 236
  rw [encN_cons, encN_cons, encN_cons, List.length_append, List.length_append, List.length_append, recB_len, recB_len, recB_len]
  rfl
section
variable {h k h' : AHeap} {S S' Z : Nat → Prop} {v w : Value} {id : Nat} {l : List Rec} {p : Option Addr}
theorem NoSn.quiet {h' : AHeap} (n : NoSn h p) (q : h.quiet h') : NoSn h' p := by
  rcases n with rfl | ⟨id, rfl, hg⟩
  · exact .inl rfl
  · exact .inr ⟨id, rfl, (q.2 _ (AHeap.lt_of_alive h (by rw [hg]; simp))).trans hg⟩
theorem nMany_ok (n : NoSn h p) : Does Try.prog 10 #[.pointer p] h (fun u h' => u = .int .i64 0 ∧ h' = h) := by
  refine spec_go mixed Try.func10 rfl Try.results10 (n := Try.f10.ntmps) (by kernel_rfl) (by simp) ?_
  rcases n with rfl | ⟨id, rfl, hg⟩
  · simp only [go_sem, simprocAttr]
  · simp only [go_sem, simprocAttr, hg]
theorem nLoad_ok (n : NoSn h p) {i : Int} : Does Try.prog 11 #[.pointer p, .int .i64 i] h (fun u h' => u = .tuple #[.slice none 0 0, .int .i64 0, .int .i64 2] ∧ h' = h) := by
  refine spec_go mixed Try.func11 rfl Try.results11 (n := Try.f11.ntmps) (by kernel_rfl) (by simp) ?_
  simp only [go_sem, simprocAttr]
  refine cl_spec (nMany_ok n) (fun _ _ _ hc => absurd hc (by decide +kernel)) ?_
  rintro u k ⟨rfl, rfl⟩
  simp only [go_sem, simprocAttr, eq_self, decide_true]
theorem copyE {x : List Nat} (hx : ∀ n ∈ x, (n : Int) ≤ IntKind.u8.max) (hn : x.length ≤ 1048576) : ∃ v1 k1, aappend k 1 1 (.slice none 0 0) x.length (x.map fun n => .int .u8 (n : Nat)) = some (v1, k1) ∧ k.quiet k1 ∧ Lst rB k.next (fun _ => False) k1 x v1 := by
  obtain ⟨v3, k3, e, hl3, hf3, hn3⟩ := (Lst.nil rB k.next (fun _ => False) k).app (ys := x) 1 rfl (bytes := 1) (n := x.length) (nat_all2 hx) rfl (by simp; omega) (by simp; omega) (Nat.le_refl _)
  rw [nat_flat] at e
  exact ⟨v3, k3, e, hf3.quiet (fun j _ h => by cases h), by simpa using hl3⟩
theorem nobody_elaw {at_ : Int} : Does Try.prog 5 #[.int .i64 at_] h (fun u _ => u = .bool true) := by
  refine spec_go mixed Try.func5 rfl Try.results5 (n := Try.f5.ntmps) (by kernel_rfl) (by simp) ?_
  simp only [go_sem, simprocAttr]
  have g1 : ((h.push (.cells [.slice none 0 0] .rw)).push (.cells [.pointer none, .pointer (some ⟨h.next, 0, none⟩)] .rw)).get h.next = .cells [.slice none 0 0] .rw := by simp only [go_sem, simprocAttr]
  have g2 : ((h.push (.cells [.slice none 0 0] .rw)).push (.cells [.pointer none, .pointer (some ⟨h.next, 0, none⟩)] .rw)).get (h.next + 1) = .cells [.pointer none, .pointer (some ⟨h.next, 0, none⟩)] .rw := by simp only [go_sem, simprocAttr]
  generalize (h.push (.cells [.slice none 0 0] .rw)).push (.cells [.pointer none, .pointer (some ⟨h.next, 0, none⟩)] .rw) = k0 at g1 g2
  refine go_cutb (fun ρ k => True) ?_ ?_
  · refine go_loop (fun z ρ k => ∃ i : Nat, i ≤ 2 ∧ z = 2 - i ∧ k0.quiet k ∧ ρ 0 = .int .i64 at_ ∧ ρ 24 = .slice (some ⟨h.next + 1, 0, none⟩) 2 2 ∧ ρ 25 = .int .i64 2 ∧ ρ 26 = .int .i64 i) 2 ⟨0, by omega, by omega, .refl _, by simp only [go_sem, simprocAttr]⟩ ?_
    rintro z ρ k ⟨i, hi, rfl, q, r0, r24, r25, r26⟩
    have e1 := (q.2 _ (AHeap.lt_of_alive k0 (by rw [g1]; simp))).trans g1
    have e2 := (q.2 _ (AHeap.lt_of_alive k0 (by rw [g2]; simp))).trans g2
    simp only [go_sem, simprocAttr, r0, r24, r25, r26]
    refine cnd_decide (fun hy => ?_) (fun hy => ?_)
    · have e9 : IntKind.i64.wrap ((i : Int) + 1) = ((i + 1 : Nat) : Int) := by rw [wi64] <;> omega
      have h1 : i < 2 := by omega
      obtain ⟨p, hp, hno⟩ : ∃ p, ([.pointer none, .pointer (some ⟨h.next, 0, none⟩)] : List Value)[i]? = some (.pointer p) ∧ NoSn k p := by
        have : i = 0 ∨ i = 1 := by omega
        rcases this with rfl | rfl
        · exact ⟨none, rfl, .inl rfl⟩
        · exact ⟨_, rfl, .inr ⟨_, rfl, e1⟩⟩
      generalize ([.pointer none, .pointer (some ⟨h.next, 0, none⟩)] : List Value) = cl' at e2 hp
      simp only [go_sem, simprocAttr, r0, r24, r25, r26, hy, h1, e2, hp]
      refine cl_spec (nLoad_ok hno) (fun _ _ _ hc => absurd hc (by decide +kernel)) ?_
      rintro u k ⟨rfl, rfl⟩
      simp only [go_sem, simprocAttr, r0, r24, r25, r26, eq_self, decide_true, decide_false]
      refine cl_spec (nMany_ok hno) (fun _ _ _ hc => absurd hc (by decide +kernel)) ?_
      rintro u k ⟨rfl, rfl⟩
      simp only [go_sem, simprocAttr, r0, r24, r25, r26, eq_self, decide_true, decide_false, e9]
      exact Hold.mk ⟨2 - (i + 1), by omega, i + 1, by omega, rfl, q, by simp only [go_sem, simprocAttr, r0, r24, r25]⟩
    · simp only [go_sem, simprocAttr]
      exact Hold.mk trivial
  · rintro ρ k1 -
    simp only [go_sem, simprocAttr]
    have q1 : k1.quiet ((k1.push (.cells [.int .u64 5] .rw)).push (.cells [.int .i64 1, .int .i64 1, .int .i64 0, .slice (some ⟨k1.next, 0, none⟩) 1 1] .rw)) := (AHeap.quiet.push _ _).push' _
    have gd : ((k1.push (.cells [.int .u64 5] .rw)).push (.cells [.int .i64 1, .int .i64 1, .int .i64 0, .slice (some ⟨k1.next, 0, none⟩) 1 1] .rw)).get k1.next = .cells [.int .u64 5] .rw := by simp only [go_sem, simprocAttr]
    have hw : IsSl rBop (· < ((k1.push (.cells [.int .u64 5] .rw)).push (.cells [.int .i64 1, .int .i64 1, .int .i64 0, .slice (some ⟨k1.next, 0, none⟩) 1 1] .rw)).next) ((k1.push (.cells [.int .u64 5] .rw)).push (.cells [.int .i64 1, .int .i64 1, .int .i64 0, .slice (some ⟨k1.next, 0, none⟩) 1 1] .rw)) [⟨1, 1, 0, [5]⟩] (.slice (some ⟨k1.next + 1, 0, none⟩) 1 1) := by
      have h5 : Words (· = k1.next) (k1.push (.cells [.int .u64 5] .rw)) [5] (.slice (some ⟨k1.next, 0, none⟩) 1 1) := IsSl.fresh1 (x := 5) (by rw [u64_max]; decide)
      refine .fresh (css := [[.int .i64 1, .int .i64 1, .int .i64 0, .slice (some ⟨k1.next, 0, none⟩) 1 1]]) (.cons (rBop_iff.2 ⟨_, rfl, by unfold Bop.inI inJ; decide, (h5.quiet (.push _ _)).weaken fun j hj => by subst hj; simp; omega⟩) .nil) rfl (by decide) (by simp) (md := .rw) (c := [.int .i64 1, .int .i64 1, .int .i64 0, .slice (some ⟨k1.next, 0, none⟩) 1 1]) ?_ rfl
      have := AHeap.get_push_self (k1.push (.cells [.int .u64 5] .rw)) (.cells [.int .i64 1, .int .i64 1, .int .i64 0, .slice (some ⟨k1.next, 0, none⟩) 1 1] .rw)
      simpa using this
    generalize (k1.push (.cells [.int .u64 5] .rw)).push (.cells [.int .i64 1, .int .i64 1, .int .i64 0, .slice (some ⟨k1.next, 0, none⟩) 1 1] .rw) = k2 at q1 gd hw
    have hd2 := AHeap.lt_of_alive k2 (i := k1.next) (by rw [gd]; simp)
    refine cl_spec (New_ok (hd := aHd) (v := .slice none 0 0) (by unfold Rec.inI inJ; decide) (.nil _ _ _) hw (by decide) (by decide) (by decide)) (fun _ _ _ hc => absurd hc (by decide +kernel)) ?_
    rintro u k3 ⟨q3, hp⟩
    rw [if_pos cE] at hp
    obtain ⟨id, rfl, hsn⟩ := hp
    change SnAt (k2.next ≤ ·) k3 id cL at hsn
    have gd3 := (q3.2 _ hd2).trans gd
    have hd3 := AHeap.lt_of_alive k3 (i := k1.next) (by rw [gd3]; simp)
    simp only [go_sem, simprocAttr, eq_self, decide_true, decide_false, gd3]
    have hsn4 : SnAt (k2.next ≤ ·) (k3.set k1.next (.cells [.int .u64 6] .rw)) id cL := hsn.mono fun j hj hl => ⟨hj, AHeap.get_set_ne _ _ (by omega)⟩
    generalize k3.set k1.next (.cells [.int .u64 6] .rw) = k4 at hsn4
    have hcl3 : cL.length = 3 := rfl
    have hsn4 : SnAt (fun j => k2.next ≤ j ∧ j < k4.next) k4 id cL := hsn4.mono fun j hj hl => ⟨⟨hj, hl⟩, rfl⟩
    refine cl_spec (Load_ok (n := 0) hsn4 cMay (by decide) (by decide)) (fun _ _ _ hc => absurd hc (by decide +kernel)) ?_
    rintro u k5 ⟨q5, m, bw, h1, h2, h3, h4, rfl, hb⟩
    obtain rfl := whole_load h2 h1 h4 (by rw [cLen]; decide)
    rw [seg_all] at hb
    have hsn5 := hsn4.quiet q5
    have hBl : (leB 8 0 ++ encN cL).length = 244 := by rw [List.length_append, leB_length, cLen]
    obtain ⟨hcln, hrd⟩ := clean_enc cOk (by decide)
    have hPok := fun (k : AHeap) (v : Value) (hb : Bytes (fun _ => True) k (leB 8 0 ++ encN cL) v) => Parse_ok hb (by decide) (by rw [cLen]; decide)
    rw [hrd] at hPok
    have hb256 := (hb.isSl (S := fun _ => True) (fun _ e _ => e.elim) (fun _ _ => trivial))
    have hvals := hb256.vals rfl
    obtain ⟨ab, nb, cb, rfl, hnb⟩ : ∃ ax nx cx, bw = .slice ax nx cx ∧ nx = 244 := by obtain ⟨ax, cx, e, _⟩ := hb.len; exact ⟨ax, _, cx, e, hBl⟩
    subst hnb
    obtain ⟨cv, k6, e6, q6, hc6⟩ := copyE (k := k5) hvals (by omega)
    have hac := hb256.acellsN
    rw [hBl] at e6
    have hLd : ∀ (k : AHeap), SnAt (fun j => k2.next ≤ j ∧ j < k4.next) k id cL → Does Try.prog 11 #[.pointer (some ⟨id, 0, none⟩), .int .i64 0] k (fun u h' => k.quiet h' ∧ ∃ w, u = .tuple #[w, .int .i64 3, .int .i64 0] ∧ Bytes (fun _ => True) h' (leB 8 0 ++ encN cL) w) := fun k hsn => by
      refine (Load_ok (n := 0) hsn cMay (by decide) (by decide)).mono fun u h' hp => ?_
      obtain ⟨q5, m, bw, h1, h2, h3, h4, rfl, hb⟩ := hp
      obtain rfl := whole_load h2 h1 h4 (by rw [cLen]; decide)
      rw [seg_all] at hb
      exact ⟨q5, bw, rfl, hb.isSl (fun _ e _ => e.elim) (fun _ _ => trivial)⟩
    generalize leB 8 0 ++ encN cL = B at *
    obtain ⟨ac, cc, rfl, _⟩ := hc6.len
    simp only [go_sem, simprocAttr, hac, e6]
    have hb6 := hb.quiet q6
    have hsn6 := hsn5.quiet q6
    refine go_cutb (fun ρ k => SnAt (fun j => k2.next ≤ j ∧ j < k4.next) k id cL ∧ Lst rB k5.next (fun _ => False) k B (.slice ac B.length cc) ∧ ρ 9 = .pointer (some ⟨id, 0, none⟩) ∧ ρ 14 = .slice ac B.length cc) ?_ ?_
    · have hobb := fun j e => hb.blk_ge (j := j) e
      refine go_loop (fun z ρ k => ∃ (i : Nat) (B' : List Nat), i ≤ 244 ∧ z = 244 - i ∧ B'.length = 244 ∧ Lst rB k4.next (fun _ => False) k B' (.slice ab 244 cb) ∧ SnAt (fun j => k2.next ≤ j ∧ j < k4.next) k id cL ∧ Lst rB k5.next (fun _ => False) k B (.slice ac B.length cc) ∧ ρ 9 = .pointer (some ⟨id, 0, none⟩) ∧ ρ 11 = .slice ab 244 cb ∧ ρ 14 = .slice ac B.length cc ∧ ρ 80 = .int .i64 244 ∧ ρ 81 = .int .i64 i) 244 ⟨0, B, by omega, by omega, hBl, hb6, hsn6, hc6, by simp only [go_sem, simprocAttr]⟩ ?_
      rintro z ρ k ⟨i, B', hi, rfl, hB', hbk, hsn, hc, r9, r11, r14, r80, r81⟩
      simp only [go_sem, simprocAttr, r9, r11, r14, r80, r81]
      refine cnd_decide (fun hy => ?_) (fun hy => ?_)
      · have h1 : i < 244 := by omega
        have e9 : IntKind.i64.wrap ((i : Int) + 1) = ((i + 1 : Nat) : Int) := by rw [wi64] <;> omega
        obtain ⟨ob, cb', z', rfl, hob, hobn, hgo, hcx, hcl, _, _, hset⟩ := hbk.setN h1
        obtain ⟨y, ey, hy8⟩ := u8_exE (((BitVec.ofInt 8 (z' : Int) ^^^ 255#8).toNat : Nat) : Int)
        have hl1 : i + 1 ≤ cb'.length := by omega
        have hob5 : ob < k5.next := (hobb ob rfl).2
        simp only [go_sem, simprocAttr, r9, r11, r14, r80, r81, hy, h1, hgo, hcx, hl1, e9]
        have s1 := hset y hy8
        have fs : Fw (· = ob) k (k.set ob (.cells (cb'.set i (.int .u8 (y : Nat))) (.tail 1))) := .set _
        rw [← ey] at s1 fs
        exact Hold.mk ⟨244 - (i + 1), by omega, i + 1, B'.set i y, by omega, rfl, by simpa using hB', s1, hsn.mono (fun j hj hl => ⟨hj, fs.2 j hl (by omega)⟩), hc.mono (Nat.le_refl _) (by simp) (fun _ e _ _ => e.elim) (fun j e hj => fs.2 j hj (by have := (hc.blk_ge e).1; omega)), by simp only [go_sem, simprocAttr, r9, r11, r14, r80]⟩
      · simp only [go_sem, simprocAttr, r9, r14]
        exact Hold.mk ⟨hsn, hc, r9, r14⟩
    · rintro ρ k ⟨hsn, hc, r9, r14⟩
      simp only [go_sem, simprocAttr, r9, r14]
      refine cl_spec (hLd k hsn) (fun _ _ _ hc => absurd hc (by decide +kernel)) ?_
      rintro u k7 ⟨q7, xw, rfl, hx7⟩
      obtain ⟨ax, nx, cx, rfl⟩ : ∃ ax nx cx, xw = .slice ax nx cx := by obtain ⟨ax, cx, e⟩ := hx7.shape; exact ⟨ax, _, cx, e⟩
      simp only [go_sem, simprocAttr, r9, r14]
      refine cl_spec (hPok k7 _ hx7) (fun _ _ _ hc => absurd hc (by decide +kernel)) ?_
      rintro u k8 ⟨q8, hp⟩
      rcases hp with ⟨_, lw, rfl, hl8⟩ | ⟨hn, _⟩
      · obtain ⟨al, nl, cl', rfl, hnl⟩ : ∃ ax nx cx, lw = .slice ax nx cx ∧ nx = 3 := by obtain ⟨ax, cx, e⟩ := hl8.shape; exact ⟨ax, _, cx, e, rfl⟩
        subst hnl
        obtain ⟨b, off, sp, cc2, md, r, mv, hA, _, hg, hmi, hmv, _, hle, hdt⟩ := IsSl.atR hl8 (i := 1) (by decide)
        obtain rfl : r = ⟨2, 0, 0, 0, 0, 1, 0, [5]⟩ := by
          have : cL[1]? = some (⟨2, 0, 0, 0, 0, 1, 0, [5]⟩ : Rec) := rfl
          rw [this] at hmi; cases hmi; rfl
        obtain ⟨am, nm, cm, rfl, hnm⟩ : ∃ ax nx cx, mv = .slice ax nx cx ∧ nx = 1 := by obtain ⟨ax, cx, e⟩ := hmv.shape; exact ⟨ax, _, cx, e, rfl⟩
        subst hnm
        obtain ⟨b2, off2, sp2, cc3, md2, y5, hA2, _, hg2, hy5, _, hc5⟩ := hmv.atN (i := 0) (by decide)
        obtain rfl : y5 = 5 := by simpa using hy5.symm
        have x7 : cc2[off + 1 * 8 + 7]? = some (.slice am 1 cm) := by have := seg_get hdt (k := 7) (by omega); rwa [rc_7] at this
        simp only [Nat.one_mul] at x7
        simp only [Nat.add_zero] at hc5
        simp only [go_sem, simprocAttr, r14]
        have hc8 : Bytes (fun _ => True) k8 B (.slice ac B.length cc) := ((hc.quiet q7).quiet q8).isSl (fun _ e _ => e.elim) (fun _ _ => trivial)
        refine cl_spec (same_ok (hx7.quiet q8) hc8) (fun _ _ _ hc => absurd hc (by decide +kernel)) ?_
        rintro u k9 ⟨rfl, rfl⟩
        simp only [go_sem, simprocAttr, eq_self, decide_true, hA, hg, x7, hA2, hg2, hc5]
        refine cl_spec ealive_ok (fun u h' hp _ => hp.2) ?_
        rintro u k10 ⟨rfl, q10⟩
        simp only [go_sem, simprocAttr, eq_self, decide_true]
      · exact absurd hcln hn
end
section
variable {h k h' : AHeap} {S S' Z : Nat → Prop} {v w : Value} {id : Nat} {l : List Rec}
theorem number_ok {x : Int} : Does Try.prog 40 #[.int .i64 x] h (fun u h' => u = .bool (decide (okF x)) ∧ h' = h) := by
  refine spec_go mixed Try.func40 rfl Try.results40 (n := Try.f40.ntmps) (by kernel_rfl) (by simp) ?_
  simp only [go_sem, simprocAttr]
  unfold okF
  by_cases c1 : 0 ≤ x
  · simp only [go_sem, simprocAttr, c1, decide_true, true_and]
  · simp only [go_sem, simprocAttr, c1, decide_false, false_and]
theorem many_ok {n : Int} : Does Try.prog 64 #[.int .i64 n] h (fun u h' => u = .bool (decide (0 ≤ n ∧ n ≤ 1024)) ∧ h' = h) := by
  refine spec_go mixed Try.func64 rfl Try.results64 (n := Try.f64.ntmps) (by kernel_rfl) (by simp) ?_
  simp only [go_sem, simprocAttr]
  by_cases c1 : 0 ≤ n
  · simp only [go_sem, simprocAttr, c1, decide_true, true_and]
  · simp only [go_sem, simprocAttr, c1, decide_false, false_and]
theorem in_ok {n i k : Int} (h0 : inJ n) (h1 : inJ i) : Does Try.prog 65 #[.int .i64 n, .int .i64 i, .int .i64 k] h (fun u h' => u = .bool (decide (0 ≤ i ∧ i ≤ n ∧ k ≤ n - i)) ∧ h' = h) := by
  refine spec_go mixed Try.func65 rfl Try.results65 (n := Try.f65.ntmps) (by kernel_rfl) (by simp) ?_
  simp only [go_sem, simprocAttr]
  by_cases c1 : 0 ≤ i
  · by_cases c2 : i ≤ n
    · have e : IntKind.i64.wrap (n - i) = n - i := by have := h0.2; rw [wi64] <;> omega
      simp only [go_sem, simprocAttr, c1, c2, decide_true, e, true_and]
    · simp only [go_sem, simprocAttr, c1, c2, decide_true, decide_false, true_and, false_and]
  · simp only [go_sem, simprocAttr, c1, decide_false, false_and]
theorem RRange_ok {o : Bop} (hv : Words S h o.data v) : Does Try.prog 43 #[.agg (o.cs v).toArray] h (fun u h' => u = .tuple #[.int .i64 o.rng.1, .int .i64 o.rng.2] ∧ h.quiet h') := by
  obtain ⟨a, c, rfl⟩ := hv.shape
  refine spec_go mixed Try.func43 rfl Try.results43 (n := Try.f43.ntmps) (by kernel_rfl) (by simp) ?_
  simp only [go_sem, simprocAttr, bo_len, bo_one, bo_take, bo_put, bo_0]
  unfold Bop.rng
  by_cases k1 : o.kd = 1
  · simp only [go_sem, simprocAttr, k1, eq_self, decide_true, bo_1, bo_3, if_true]
    all_goals exact .push _ _
  · by_cases k2 : o.kd = 2
    · simp only [go_sem, simprocAttr, k1, k2, eq_self, decide_true, decide_false, bo_1, bo_2, if_true, if_false]
      all_goals exact .push _ _
    · simp only [go_sem, simprocAttr, k1, k2, decide_true, decide_false, if_false]
      all_goals exact .push _ _
theorem RRight_ok {o : Bop} {n : Int} (hi : o.inI) (hn : inJ n) (hv : Words S h o.data v) : Does Try.prog 44 #[.int .i64 n, .agg (o.cs v).toArray] h (fun u h' => u = .bool (decide (o.fits n)) ∧ h.quiet h') := by
  obtain ⟨a, c, rfl⟩ := hv.shape
  have hl := hv.len
  have hno : ¬ o.fits n → Value.bool false = Value.bool (decide (o.fits n)) := fun e => by rw [decide_eq_false e]
  have hr : ∀ q, (q ↔ o.fits n) → ∀ [Decidable q], Value.bool (decide q) = Value.bool (decide (o.fits n)) := fun q e _ => congrArg Value.bool (decide_eq_decide.2 e)
  refine spec_go mixed Try.func44 rfl Try.results44 (n := Try.f44.ntmps) (by kernel_rfl) (by simp) ?_
  simp only [go_sem, simprocAttr, bo_len, bo_one, bo_take, bo_put]
  have q0 : h.quiet (h.push (.cells (o.cs (.slice a o.data.length c)) .rw)) := .push _ _
  have g0 : (h.push (.cells (o.cs (.slice a o.data.length c)) .rw)).get h.next = .cells (o.cs (.slice a o.data.length c)) .rw := by simp
  generalize h.push (.cells (o.cs (.slice a o.data.length c)) .rw) = k at q0 g0
  simp only [go_sem, simprocAttr, g0, bo_0]
  by_cases k1 : o.kd = 1
  · have er : o.rng = (o.off, (o.data.length : Int)) := by unfold Bop.rng; rw [if_pos k1]
    have hf : o.fits n ↔ (0 ≤ n ∧ n ≤ 1024 ∧ 1 ≤ (o.data.length : Int) ∧ 0 ≤ o.off ∧ (o.data.length : Int) ≤ n ∧ o.off ≤ n - o.data.length) ∧ ((o.kd = 2 ∧ o.data.length = 0) ∨ (o.kd = 1 ∧ o.ln = 0 ∧ (o.data.length : Int) ≤ 64)) := by unfold Bop.fits; rw [er]
    simp only [go_sem, simprocAttr, k1, eq_self, decide_true]
    refine cl_spec many_ok (fun _ _ _ hc => absurd hc (by decide +kernel)) ?_
    rintro u k2 ⟨rfl, rfl⟩
    by_cases c1 : 0 ≤ n ∧ n ≤ 1024
    · simp only [go_sem, simprocAttr, decide_eq_true c1, g0, bo_2]
      by_cases c2 : o.ln = 0
      · simp only [go_sem, simprocAttr, c2, eq_self, decide_true, g0, bo_3]
        by_cases c3 : (1 : Int) ≤ o.data.length
        · simp only [go_sem, simprocAttr, c3, decide_true, g0, bo_3]
          by_cases c4 : (o.data.length : Int) ≤ 64
          · simp only [go_sem, simprocAttr, c4, decide_true, g0, bo_3, bo_1]
            refine cl_spec (in_ok hn hi.2.1) (fun _ _ _ hc => absurd hc (by decide +kernel)) ?_
            rintro u k3 ⟨rfl, rfl⟩
            simp only [go_sem, simprocAttr]
            exact ⟨hr _ (by rw [hf]; omega), q0⟩
          · simp only [go_sem, simprocAttr, c4, decide_false]
            exact ⟨hno (by rw [hf]; omega), q0⟩
        · simp only [go_sem, simprocAttr, c3, decide_false]
          exact ⟨hno (by rw [hf]; omega), q0⟩
      · simp only [go_sem, simprocAttr, c2, decide_false]
        exact ⟨hno (by rw [hf]; omega), q0⟩
    · simp only [go_sem, simprocAttr, decide_eq_false c1]
      exact ⟨hno (by rw [hf]; omega), q0⟩
  · by_cases k2 : o.kd = 2
    · have er : o.rng = (o.off, o.ln) := by unfold Bop.rng; rw [if_neg k1, if_pos k2]
      have hf : o.fits n ↔ (0 ≤ n ∧ n ≤ 1024 ∧ 1 ≤ o.ln ∧ 0 ≤ o.off ∧ o.ln ≤ n ∧ o.off ≤ n - o.ln) ∧ ((o.kd = 2 ∧ o.data.length = 0) ∨ (o.kd = 1 ∧ o.ln = 0 ∧ o.ln ≤ 64)) := by unfold Bop.fits; rw [er]
      simp only [go_sem, simprocAttr, k1, k2, eq_self, decide_true, decide_false]
      refine cl_spec many_ok (fun _ _ _ hc => absurd hc (by decide +kernel)) ?_
      rintro u k2 ⟨rfl, rfl⟩
      by_cases c1 : 0 ≤ n ∧ n ≤ 1024
      · simp only [go_sem, simprocAttr, decide_eq_true c1, g0, bo_3]
        by_cases c2 : (o.data.length : Int) = 0
        · simp only [go_sem, simprocAttr, c2, eq_self, decide_true, g0, bo_2]
          by_cases c3 : 1 ≤ o.ln
          · simp only [go_sem, simprocAttr, c3, decide_true, g0, bo_2, bo_1]
            refine cl_spec (in_ok hn hi.2.1) (fun _ _ _ hc => absurd hc (by decide +kernel)) ?_
            rintro u k3 ⟨rfl, rfl⟩
            simp only [go_sem, simprocAttr]
            exact ⟨hr _ (by rw [hf]; omega), q0⟩
          · simp only [go_sem, simprocAttr, c3, decide_false]
            exact ⟨hno (by rw [hf]; omega), q0⟩
        · simp only [go_sem, simprocAttr, c2, decide_false]
          exact ⟨hno (by rw [hf]; omega), q0⟩
      · simp only [go_sem, simprocAttr, decide_eq_false c1]
        exact ⟨hno (by rw [hf]; omega), q0⟩
    · simp only [go_sem, simprocAttr, k1, k2, decide_false]
      exact ⟨hno (by unfold Bop.fits; omega), q0⟩
/-- The op of a record between. -/
theorem rop_ok {m : Rec} (hv : Words S h m.data v) (hm : m.may) (hb : m.kd = 2 ∨ m.kd = 3) : Does Try.prog 42 #[.agg (m.cs v).toArray] h (fun u h' => h.quiet h' ∧ ∃ w, u = .agg (m.op.cs w).toArray ∧ Words S h' m.data w) := by
  obtain ⟨a, c, rfl⟩ := hv.shape
  have hf := hm.2
  unfold Rec.form at hf
  refine spec_go mixed Try.func42 rfl Try.results42 (n := Try.f42.ntmps) (by kernel_rfl) (by simp) ?_
  have q0 : h.quiet ((h.push (.cells (m.cs (.slice a m.data.length c)) .rw)).push (.cells [.int .i64 0, .int .i64 0, .int .i64 0, .slice none 0 0] .rw)) := (AHeap.quiet.push _ _).push' _
  have hq : ∀ o, h.quiet ((h.push (.cells (m.cs (.slice a m.data.length c)) .rw)).push o) := fun o => (AHeap.quiet.push _ _).push' _
  rcases hb with hb | hb
  · have e : m.op = ⟨1, m.of_, 0, m.data⟩ := by
      have : m.ln = 0 := by omega
      unfold Rec.op; rw [hb, this]; rfl
    simp only [go_sem, simprocAttr, rc_len, rc_one, rc_take, rc_put, rc_0, rc_5, rc_6, rc_7, hb, eq_self, decide_true]
    rw [e]
    exact ⟨_, rfl, hv.quiet (hq _)⟩
  · have hd : m.data = [] := List.eq_nil_of_length_eq_zero (by omega)
    have e : m.op = ⟨2, m.of_, m.ln, m.data⟩ := by unfold Rec.op; rw [hb]; rfl
    simp only [go_sem, simprocAttr, rc_len, rc_one, rc_take, rc_put, rc_0, rc_5, rc_6, rc_7, hb, eq_self, decide_true, decide_false]
    rw [e, hd]
    exact ⟨.slice none 0 0, rfl, .nil _ _ _⟩
theorem rec_eq {X m : Rec} : X = m ↔ X.kd = m.kd ∧ X.sh = m.sh ∧ X.sn = m.sn ∧ X.ba = m.ba ∧ X.mp = m.mp ∧ X.of_ = m.of_ ∧ X.ln = m.ln ∧ X.data = m.data := by cases X; cases m; simp
theorem nil_eq {d : List Nat} : [] = d ↔ d.length = 0 := ⟨fun e => by rw [← e]; rfl, fun e => (List.eq_nil_of_length_eq_zero e).symm⟩
theorem RMay_ok {m : Rec} (hv : Words S h m.data v) : Does Try.prog 18 #[.agg (m.cs v).toArray] h (fun u h' => u = .bool (decide m.may) ∧ h.quiet h') := by
  obtain ⟨a, c, rfl⟩ := hv.shape
  have hl := hv.len
  have hno : ¬ m.may → Value.bool false = Value.bool (decide m.may) := fun e => by rw [decide_eq_false e]
  have hr : ∀ q, (q ↔ m.may) → ∀ [Decidable q], Value.bool (decide q) = Value.bool (decide m.may) := fun q e _ => congrArg Value.bool (decide_eq_decide.2 e)
  refine spec_goH [5, 8, 11] mixed Try.func18 rfl Try.results18 (n := Try.f18.ntmps) (by kernel_rfl) (by simp) ?_
  simp only [go_sem, simprocAttr, go_regionH, rg_false, rg_true, List.contains_cons, List.contains_nil, beq_self_eq_true, Bool.or_false, Bool.false_or, Bool.true_or, Nat.reduceBEq, rc_len, rc_one, rc_take, rc_put, rc_0]
  have g0 : ((h.push (.cells (m.cs (.slice a m.data.length c)) .rw)).push (.cells [.int .i64 m.kd, .int .i64 0, .int .i64 0, .int .i64 0, .int .i64 0, .int .i64 0, .int .i64 0, .slice none 0 0] .rw)).get h.next = .cells (m.cs (.slice a m.data.length c)) .rw := by simp only [go_sem, simprocAttr]
  have g1 : ((h.push (.cells (m.cs (.slice a m.data.length c)) .rw)).push (.cells [.int .i64 m.kd, .int .i64 0, .int .i64 0, .int .i64 0, .int .i64 0, .int .i64 0, .int .i64 0, .slice none 0 0] .rw)).get (h.next + 1) = .cells [.int .i64 m.kd, .int .i64 0, .int .i64 0, .int .i64 0, .int .i64 0, .int .i64 0, .int .i64 0, .slice none 0 0] .rw := by simp only [go_sem, simprocAttr]
  have q0 : h.quiet ((h.push (.cells (m.cs (.slice a m.data.length c)) .rw)).push (.cells [.int .i64 m.kd, .int .i64 0, .int .i64 0, .int .i64 0, .int .i64 0, .int .i64 0, .int .i64 0, .slice none 0 0] .rw)) := (AHeap.quiet.push _ _).push' _
  have n0 : ((h.push (.cells (m.cs (.slice a m.data.length c)) .rw)).push (.cells [.int .i64 m.kd, .int .i64 0, .int .i64 0, .int .i64 0, .int .i64 0, .int .i64 0, .int .i64 0, .slice none 0 0] .rw)).next = h.next + 2 := by simp
  generalize (h.push (.cells (m.cs (.slice a m.data.length c)) .rw)).push (.cells [.int .i64 m.kd, .int .i64 0, .int .i64 0, .int .i64 0, .int .i64 0, .int .i64 0, .int .i64 0, .slice none 0 0] .rw) = k0 at g0 g1 q0 n0
  refine cnd_join (fun ρ k => ∃ (X : Rec) (xv : Value) (okb : Bool), h.quiet k ∧ k.get h.next = .cells (m.cs (.slice a m.data.length c)) .rw ∧ k.get (h.next + 1) = .cells (X.cs xv) .rw ∧ Words (fun _ => True) k X.data xv ∧ ρ 1 = .pointer (some ⟨h.next, 0, none⟩) ∧ ρ 3 = .pointer (some ⟨h.next + 1, 0, none⟩) ∧ ρ 4 = .bool okb ∧ ((okb = true ∧ X = m) ↔ m.form)) ?_ ?_
  · have hap : ∀ ρ : Env, ρ 1 = .pointer (some ⟨h.next, 0, none⟩) → ρ 3 = .pointer (some ⟨h.next + 1, 0, none⟩) → ∀ t ∈ [1], ∀ s ∈ [3], ∀ x, vblk (ρ t) = some x → vblk (ρ s) ≠ some x := fun ρ r1 r3 t ht s hs y e1 e2 => by
      obtain rfl : t = 1 := by simpa using ht
      obtain rfl : s = 3 := by simpa using hs
      rw [r1] at e1
      rw [r3] at e2
      simp only [vblk, Option.some.injEq] at e1 e2
      omega
    have hlt1 := AHeap.lt_of_alive k0 (i := h.next + 1) (by rw [g1]; simp)
    have hne : h.next + 1 ≠ h.next := by omega
    have gs : ∀ o, (k0.set (h.next + 1) o).get h.next = .cells (m.cs (.slice a m.data.length c)) .rw := fun o => by rw [AHeap.get_set_ne _ _ hne]; exact g0
    have gS : ∀ o, (k0.set (h.next + 1) o).get (h.next + 1) = o := fun o => AHeap.get_set_self _ _ hlt1
    have qs : ∀ o, h.quiet (k0.set (h.next + 1) o) := fun o => q0.set' (by omega) o
    have hvs : ∀ o, Words (fun _ => True) (k0.set (h.next + 1) o) m.data (.slice a m.data.length c) := fun o => (hv.weaken fun _ _ => trivial).quiet (qs o)
    by_cases k1 : m.kd = 1
    · simp only [go_sem, simprocAttr, go_regionH, rg_false, rg_true, List.contains_cons, List.contains_nil, beq_self_eq_true, Bool.or_false, Bool.false_or, Bool.true_or, Nat.reduceBEq, k1, eq_self, decide_true, g0, g1, gs, gS, AHeap.set_set, rc_0, rc_1, rc_2, rc_3, rc_4, rc_5, rc_6, rc_7]
      refine ⟨apart_of [1] [3] (by decide +kernel) (hap _ (by simp only [go_sem, simprocAttr]) (by simp only [go_sem, simprocAttr])), ?_⟩
      refine ⟨⟨1, m.sh, m.sn, m.ba, m.mp, 0, m.ln, []⟩, .slice none 0 0, true, qs _, gs _, gS _, .nil _ _ _, rfl, rfl, rfl, ?_⟩
      rw [rec_eq, nil_eq]; unfold Rec.form; dsimp only
      exact ⟨fun ⟨_, e1, e2, e3, e4, e5, e6, e7, e8⟩ => by omega, fun e => ⟨rfl, by omega, rfl, rfl, rfl, rfl, by omega, rfl, by omega⟩⟩
    · by_cases k2 : m.kd = 2
      · simp only [go_sem, simprocAttr, go_regionH, rg_false, rg_true, List.contains_cons, List.contains_nil, beq_self_eq_true, Bool.or_false, Bool.false_or, Bool.true_or, Nat.reduceBEq, k1, k2, eq_self, decide_true, decide_false, g0, g1, gs, gS, AHeap.set_set, rc_0, rc_1, rc_2, rc_3, rc_4, rc_5, rc_6, rc_7]
        refine ⟨apart_of [1] [3] (by decide +kernel) (hap _ (by simp only [go_sem, simprocAttr]) (by simp only [go_sem, simprocAttr])), ?_⟩
        by_cases c1 : (1 : Int) ≤ m.data.length
        · simp only [go_sem, simprocAttr, go_regionH, rg_false, rg_true, List.contains_cons, List.contains_nil, beq_self_eq_true, Bool.or_false, Bool.false_or, Bool.true_or, Nat.reduceBEq, c1, decide_true, gs, rc_7]
          refine ⟨⟨2, 0, 0, 0, 0, m.of_, 0, m.data⟩, .slice a m.data.length c, decide ((m.data.length : Int) ≤ 64), qs _, gs _, gS _, hvs _, rfl, rfl, rfl, ?_⟩
          rw [rec_eq, decide_eq_true_eq]; unfold Rec.form; dsimp only
          exact ⟨fun ⟨e0, e1, e2, e3, e4, e5, e6, e7, e8⟩ => by omega, fun e => ⟨by omega, by omega, by omega, by omega, by omega, by omega, rfl, by omega, rfl⟩⟩
        · simp only [go_sem, simprocAttr, go_regionH, rg_false, rg_true, List.contains_cons, List.contains_nil, beq_self_eq_true, Bool.or_false, Bool.false_or, Bool.true_or, Nat.reduceBEq, c1, decide_false]
          refine ⟨⟨2, 0, 0, 0, 0, m.of_, 0, m.data⟩, .slice a m.data.length c, false, qs _, gs _, gS _, hvs _, rfl, rfl, rfl, ?_⟩
          exact ⟨(fun e => by cases e.1), (fun e => by exfalso; unfold Rec.form at e; omega)⟩
      · by_cases k3 : m.kd = 3
        · simp only [go_sem, simprocAttr, go_regionH, rg_false, rg_true, List.contains_cons, List.contains_nil, beq_self_eq_true, Bool.or_false, Bool.false_or, Bool.true_or, Nat.reduceBEq, k1, k2, k3, eq_self, decide_true, decide_false, g0, g1, gs, gS, AHeap.set_set, rc_0, rc_1, rc_2, rc_3, rc_4, rc_5, rc_6, rc_7]
          refine ⟨apart_of [1] [3] (by decide +kernel) (hap _ (by simp only [go_sem, simprocAttr]) (by simp only [go_sem, simprocAttr])), ?_⟩
          refine ⟨⟨3, 0, 0, 0, 0, m.of_, m.ln, []⟩, .slice none 0 0, decide (1 ≤ m.ln), qs _, gs _, gS _, .nil _ _ _, rfl, rfl, rfl, ?_⟩
          rw [rec_eq, nil_eq, decide_eq_true_eq]; unfold Rec.form; dsimp only
          exact ⟨fun ⟨e0, e1, e2, e3, e4, e5, e6, e7, e8⟩ => by omega, fun e => ⟨by omega, by omega, by omega, by omega, by omega, by omega, rfl, rfl, by omega⟩⟩
        · by_cases k4 : m.kd = 4
          · simp only [go_sem, simprocAttr, go_regionH, rg_false, rg_true, List.contains_cons, List.contains_nil, beq_self_eq_true, Bool.or_false, Bool.false_or, Bool.true_or, Nat.reduceBEq, k1, k2, k3, k4, eq_self, decide_true, decide_false, g0, g1, gs, gS, AHeap.set_set, rc_0, rc_1, rc_2, rc_3, rc_4, rc_5, rc_6, rc_7]
            refine ⟨⟨4, 0, 0, 0, 0, 0, m.ln, []⟩, .slice none 0 0, true, qs _, gs _, gS _, .nil _ _ _, rfl, rfl, rfl, ?_⟩
            rw [rec_eq, nil_eq]; unfold Rec.form; dsimp only
            exact ⟨fun ⟨_, e1, e2, e3, e4, e5, e6, e7, e8⟩ => by omega, fun e => ⟨rfl, by omega, by omega, by omega, by omega, by omega, by omega, rfl, by omega⟩⟩
          · simp only [go_sem, simprocAttr, go_regionH, rg_false, rg_true, List.contains_cons, List.contains_nil, beq_self_eq_true, Bool.or_false, Bool.false_or, Bool.true_or, Nat.reduceBEq, k1, k2, k3, k4, decide_true, decide_false]
            refine ⟨⟨m.kd, 0, 0, 0, 0, 0, 0, []⟩, .slice none 0 0, false, q0, g0, g1, .nil _ _ _, rfl, rfl, rfl, ?_⟩
            exact ⟨(fun e => by cases e.1), (fun e => by exfalso; unfold Rec.form at e; omega)⟩
  · rintro ρ k ⟨X, xv, okb, q, gm, gx, hX, r1, r3, r4, hif⟩
    obtain ⟨ax, cx, rfl⟩ := hX.shape
    have hvk := hv.quiet q
    simp only [go_sem, simprocAttr, go_regionH, rg_false, rg_true, List.contains_cons, List.contains_nil, beq_self_eq_true, Bool.or_false, Bool.false_or, Bool.true_or, Nat.reduceBEq, r1, r3, r4]
    cases okb with
    | false =>
      have : ¬ m.form := fun e => by have := (hif.2 e).1; cases this
      simp only [go_sem, simprocAttr, go_regionH, rg_false, rg_true, List.contains_cons, List.contains_nil, beq_self_eq_true, Bool.or_false, Bool.false_or, Bool.true_or, Nat.reduceBEq, eq_self]
      exact ⟨hno (fun e => this e.2), q⟩
    | true =>
      simp only [go_sem, simprocAttr, go_regionH, rg_false, rg_true, List.contains_cons, List.contains_nil, beq_self_eq_true, Bool.or_false, Bool.false_or, Bool.true_or, Nat.reduceBEq, r1, r3, gm, gx, rc_len, rc_one, rc_take, rc_put]
      refine cl_spec (One_ok hX hvk) (fun u h' hp _ => hp.2) ?_
      rintro u k2 ⟨rfl, q2⟩
      have gm2 := (q2.2 _ (AHeap.lt_of_alive k (by rw [gm]; simp))).trans gm
      by_cases hXm : X = m
      · have hform := hif.1 ⟨rfl, hXm⟩
        have hkd : okF m.kd := by unfold okF; unfold Rec.form at hform; omega
        simp only [go_sem, simprocAttr, go_regionH, rg_false, rg_true, List.contains_cons, List.contains_nil, beq_self_eq_true, Bool.or_false, Bool.false_or, Bool.true_or, Nat.reduceBEq, r1, r3, decide_eq_true hXm, gm2, rc_1]
        refine cl_spec number_ok (fun _ _ _ hc => absurd hc (by decide +kernel)) ?_
        rintro u k3 ⟨rfl, rfl⟩
        by_cases c1 : okF m.sh
        · simp only [go_sem, simprocAttr, go_regionH, rg_false, rg_true, List.contains_cons, List.contains_nil, beq_self_eq_true, Bool.or_false, Bool.false_or, Bool.true_or, Nat.reduceBEq, r1, r3, decide_eq_true c1, gm2, rc_2]
          refine cl_spec number_ok (fun _ _ _ hc => absurd hc (by decide +kernel)) ?_
          rintro u k3 ⟨rfl, rfl⟩
          by_cases c2 : okF m.sn
          · simp only [go_sem, simprocAttr, go_regionH, rg_false, rg_true, List.contains_cons, List.contains_nil, beq_self_eq_true, Bool.or_false, Bool.false_or, Bool.true_or, Nat.reduceBEq, r1, r3, decide_eq_true c2, gm2, rc_3]
            refine cl_spec number_ok (fun _ _ _ hc => absurd hc (by decide +kernel)) ?_
            rintro u k3 ⟨rfl, rfl⟩
            by_cases c3 : okF m.ba
            · simp only [go_sem, simprocAttr, go_regionH, rg_false, rg_true, List.contains_cons, List.contains_nil, beq_self_eq_true, Bool.or_false, Bool.false_or, Bool.true_or, Nat.reduceBEq, r1, r3, decide_eq_true c3, gm2, rc_4]
              refine cl_spec number_ok (fun _ _ _ hc => absurd hc (by decide +kernel)) ?_
              rintro u k3 ⟨rfl, rfl⟩
              by_cases c4 : okF m.mp
              · simp only [go_sem, simprocAttr, go_regionH, rg_false, rg_true, List.contains_cons, List.contains_nil, beq_self_eq_true, Bool.or_false, Bool.false_or, Bool.true_or, Nat.reduceBEq, r1, r3, decide_eq_true c4, gm2, rc_5]
                refine cl_spec number_ok (fun _ _ _ hc => absurd hc (by decide +kernel)) ?_
                rintro u k3 ⟨rfl, rfl⟩
                by_cases c5 : okF m.of_
                · simp only [go_sem, simprocAttr, go_regionH, rg_false, rg_true, List.contains_cons, List.contains_nil, beq_self_eq_true, Bool.or_false, Bool.false_or, Bool.true_or, Nat.reduceBEq, r1, r3, decide_eq_true c5, gm2, rc_6]
                  refine cl_spec number_ok (fun _ _ _ hc => absurd hc (by decide +kernel)) ?_
                  rintro u k3 ⟨rfl, rfl⟩
                  simp only [go_sem, simprocAttr, go_regionH, rg_false, rg_true, List.contains_cons, List.contains_nil, beq_self_eq_true, Bool.or_false, Bool.false_or, Bool.true_or, Nat.reduceBEq, eq_self]
                  exact ⟨hr _ ⟨fun e => ⟨⟨hkd, c1, c2, c3, c4, c5, e⟩, hform⟩, fun e => e.1.2.2.2.2.2.2⟩, q.trans q2⟩
                · simp only [go_sem, simprocAttr, go_regionH, rg_false, rg_true, List.contains_cons, List.contains_nil, beq_self_eq_true, Bool.or_false, Bool.false_or, Bool.true_or, Nat.reduceBEq, decide_eq_false c5]
                  exact ⟨hno (fun e => c5 e.1.2.2.2.2.2.1), q.trans q2⟩
              · simp only [go_sem, simprocAttr, go_regionH, rg_false, rg_true, List.contains_cons, List.contains_nil, beq_self_eq_true, Bool.or_false, Bool.false_or, Bool.true_or, Nat.reduceBEq, decide_eq_false c4]
                exact ⟨hno (fun e => c4 e.1.2.2.2.2.1), q.trans q2⟩
            · simp only [go_sem, simprocAttr, go_regionH, rg_false, rg_true, List.contains_cons, List.contains_nil, beq_self_eq_true, Bool.or_false, Bool.false_or, Bool.true_or, Nat.reduceBEq, decide_eq_false c3]
              exact ⟨hno (fun e => c3 e.1.2.2.2.1), q.trans q2⟩
          · simp only [go_sem, simprocAttr, go_regionH, rg_false, rg_true, List.contains_cons, List.contains_nil, beq_self_eq_true, Bool.or_false, Bool.false_or, Bool.true_or, Nat.reduceBEq, decide_eq_false c2]
            exact ⟨hno (fun e => c2 e.1.2.2.1), q.trans q2⟩
        · simp only [go_sem, simprocAttr, go_regionH, rg_false, rg_true, List.contains_cons, List.contains_nil, beq_self_eq_true, Bool.or_false, Bool.false_or, Bool.true_or, Nat.reduceBEq, decide_eq_false c1]
          exact ⟨hno (fun e => c1 e.1.2.1), q.trans q2⟩
      · simp only [go_sem, simprocAttr, go_regionH, rg_false, rg_true, List.contains_cons, List.contains_nil, beq_self_eq_true, Bool.or_false, Bool.false_or, Bool.true_or, Nat.reduceBEq, decide_eq_false hXm]
        exact ⟨hno (fun e => hXm (hif.2 e.2).2), q.trans q2⟩
end
theorem mid_at {l : List Rec} {j : Nat} (hj : j + 1 < l.length - 1) : (midR l)[j]? = l[j + 1]? := by
  unfold midR
  rw [List.getElem?_take, if_pos (by omega), List.getElem?_drop, Nat.add_comm]
theorem mid_len {l : List Rec} : (midR l).length = l.length - 1 - 1 := by unfold midR; rw [List.length_take, List.length_drop]; omega
theorem mid_iff {l : List Rec} {r : Rec} : r ∈ midR l ↔ ∃ j, j + 1 < l.length - 1 ∧ l[j + 1]? = some r := by
  rw [List.mem_iff_getElem?]
  constructor
  · rintro ⟨j, hj⟩
    have h1 := (List.getElem?_eq_some_iff.1 hj).1
    rw [mid_len] at h1
    exact ⟨j, by omega, by rw [← mid_at (by omega)]; exact hj⟩
  · rintro ⟨j, h1, h2⟩
    exact ⟨j, by rw [mid_at h1]; exact h2⟩
def badO (l : List Rec) : Prop := l.length < 2 ∨ (hdR l).kd ≠ 1 ∨ (tlR l).kd ≠ 4 ∨ ∃ r ∈ midR l, ¬ (r.kd = 2 ∨ r.kd = 3)
instance (l : List Rec) : Decidable (badO l) := inferInstanceAs (Decidable (_ ∨ _ ∨ _ ∨ _))
theorem may_kd {r : Rec} (h : r.may) : 1 ≤ r.kd ∧ r.kd ≤ 4 := by
  have := h.2
  unfold Rec.form at this
  omega
section
variable {h k h' : AHeap} {S S' Z : Nat → Prop} {v w : Value} {id : Nat} {l : List Rec}
/-- What stands at a place of a record. -/
theorem IsSl.atF {a : Option Addr} {n c : Nat} (hs : IsSl rRec S h l (.slice a n c)) {i : Nat} (hi : i < n) : ∃ b off sp cc md r, a = some ⟨b, off, sp⟩ ∧ h.get b = .cells cc md ∧ l[i]? = some r ∧ r.inI ∧ cc[off + i * 8]? = some (.int .i64 r.kd) ∧ cc[off + i * 8 + 6]? = some (.int .i64 r.ln) := by
  obtain ⟨b, off, sp, cc, md, r, lv, hA, _, hg, hri, _, hrI, hle, hdt⟩ := IsSl.atR hs hi
  have x0 : cc[off + i * 8]? = some (.int .i64 r.kd) := by have := seg_get hdt (k := 0) (by omega); simp only [Nat.add_zero] at this; rwa [rc_0] at this
  have x6 : cc[off + i * 8 + 6]? = some (.int .i64 r.ln) := by have := seg_get hdt (k := 6) (by omega); rwa [rc_6] at this
  exact ⟨b, off, sp, cc, md, r, hA, hg, hri, hrI, x0, x6⟩
theorem order_ok (hs : IsSl rRec S h l v) (hmay : ∀ r ∈ l, r.may) : Does Try.prog 41 #[v] h (fun u h' => u = .bool (decide (¬ badO l)) ∧ h' = h) := by
  obtain ⟨a, c, rfl⟩ := hs.shape
  have hll := hs.len
  have hbad : badO l → Value.bool false = Value.bool (decide (¬ badO l)) := fun e => by rw [decide_eq_false (fun x => x e)]
  refine spec_go mixed Try.func41 rfl Try.results41 (n := Try.f41.ntmps) (by kernel_rfl) (by simp) ?_
  simp only [go_sem, simprocAttr]
  by_cases c2 : l.length < 2
  · have c2' : (l.length : Int) < 2 := by omega
    simp only [go_sem, simprocAttr, c2', decide_true]
    exact hbad (.inl c2)
  · have c2' : ¬ (l.length : Int) < 2 := by omega
    obtain ⟨b, off, sp, cc, md, x, rfl, hg, hxi, hxI, x0, x6⟩ := IsSl.atF hs (i := 0) (by omega)
    obtain ⟨b', off', sp', cc', md', y, hA', hg', hyi, _, y0, y6⟩ := IsSl.atF hs (i := l.length - 1) (by omega)
    cases hA'
    obtain rfl : cc = cc' := by rw [hg] at hg'; cases hg'; rfl
    have hh : hdR l = x := by unfold hdR; rw [hxi]; rfl
    have ht : tlR l = y := by unfold tlR; rw [hyi]; rfl
    simp only [Nat.zero_mul, Nat.add_zero] at x0
    have e1 : IntKind.i64.wrap ((l.length : Int) - 1) = ((l.length - 1 : Nat) : Int) := by rw [wi64] <;> omega
    have l0 : (0 : Int) < l.length := by omega
    have l1 : 0 < l.length := by omega
    have l2 : l.length - 1 < l.length := by omega
    simp only [go_sem, simprocAttr, c2', decide_false, hg, x0, l0, l1]
    by_cases k1 : x.kd = 1
    · simp only [go_sem, simprocAttr, k1, eq_self, decide_true, decide_false, e1, l2, hg, y0]
      by_cases k4 : y.kd = 4
      · simp only [go_sem, simprocAttr, k4, eq_self, decide_true, decide_false]
        refine go_loop (fun z ρ k => k = h ∧ ∃ i : Nat, 1 ≤ i ∧ i ≤ l.length - 1 ∧ z = l.length - 1 - i ∧ (∀ (j : Nat) (r : Rec), j + 1 < i → l[j + 1]? = some r → r.kd = 2 ∨ r.kd = 3) ∧ ρ 0 = .slice (some ⟨b, off, sp⟩) l.length c ∧ ρ 3 = .int .i64 l.length ∧ ρ 4 = .int .i64 i) (l.length - 1 - 1) ⟨rfl, 1, by omega, by omega, rfl, fun j r hj => by omega, by simp only [go_sem, simprocAttr]⟩ ?_
        rintro z ρ k ⟨rfl, i, hi1, hi, rfl, hall, r0, r3, r4⟩
        simp only [go_sem, simprocAttr, r0, r3, r4, e1]
        by_cases hlt : i < l.length - 1
        · have hlt' : (i : Int) < ((l.length - 1 : Nat) : Int) := by omega
          obtain ⟨b2, off2, sp2, cc2, md2, r, hA2, hg2, hri, _, z0, _⟩ := IsSl.atF hs (i := i) (by omega)
          cases hA2
          have hil : i < l.length := by omega
          have e9 : IntKind.i64.wrap ((i : Int) + 1) = ((i + 1 : Nat) : Int) := by rw [wi64] <;> omega
          have hkd := may_kd (hmay r (List.mem_of_getElem? hri))
          have hri' : l[i - 1 + 1]? = some r := by rw [show i - 1 + 1 = i by omega]; exact hri
          simp only [go_sem, simprocAttr, r0, r3, r4, hlt, hlt', decide_true, hil, hg2, z0]
          by_cases j1 : r.kd = 1
          · simp only [go_sem, simprocAttr, j1, eq_self, decide_true]
            exact hbad (.inr (.inr (.inr ⟨r, mid_iff.2 ⟨i - 1, by omega, hri'⟩, by omega⟩)))
          · by_cases j4 : r.kd = 4
            · simp only [go_sem, simprocAttr, r0, r3, r4, hlt, hlt', j1, j4, eq_self, decide_true, decide_false, hil, hg2, z0]
              exact hbad (.inr (.inr (.inr ⟨r, mid_iff.2 ⟨i - 1, by omega, hri'⟩, by omega⟩)))
            · simp only [go_sem, simprocAttr, r0, r3, r4, hlt, hlt', j1, j4, decide_true, decide_false, hil, hg2, z0, e9]
              refine Hold.mk ⟨l.length - 1 - (i + 1), by omega, rfl, i + 1, by omega, by omega, rfl, fun j r' hj hr' => ?_, by simp only [go_sem, simprocAttr, r0, r3]⟩
              by_cases hji : j + 1 = i
              · subst hji
                rw [hri] at hr'; cases hr'; omega
              · exact hall j r' (by omega) hr'
        · have hlt' : ¬ (i : Int) < ((l.length - 1 : Nat) : Int) := by omega
          simp only [go_sem, simprocAttr, hlt, hlt', decide_false]
          have : ¬ badO l := by
            rintro (e | e | e | ⟨r, hr, e⟩)
            · exact c2 e
            · rw [hh] at e; exact e k1
            · rw [ht] at e; exact e k4
            · obtain ⟨j, hj, hr⟩ := mid_iff.1 hr
              exact e (hall j r (by omega) hr)
          rw [decide_eq_true this]
      · simp only [go_sem, simprocAttr, k4, decide_true, decide_false]
        exact hbad (.inr (.inr (.inl (by rw [ht]; exact k4))))
    · simp only [go_sem, simprocAttr, k1, decide_true, decide_false]
      exact hbad (.inr (.inl (by rw [hh]; exact k1)))
theorem RCheck_ok (hs : IsSl rRec S h l v) : Does Try.prog 19 #[v] h (fun u h' => h.quiet h' ∧ u = .int .i64 (checkN l)) := by
  obtain ⟨a, c, rfl⟩ := hs.shape
  have hll := hs.len
  refine spec_go mixed Try.func19 rfl Try.results19 (n := Try.f19.ntmps) (by kernel_rfl) (by simp) ?_
  simp only [go_sem, simprocAttr]
  unfold checkN
  refine go_cutb (fun ρ k => h.quiet k ∧ (∀ r ∈ l, r.may) ∧ ρ 0 = .slice a l.length c) ?_ ?_
  · refine go_loop (fun z ρ k => ∃ i : Nat, i ≤ l.length ∧ z = l.length - i ∧ h.quiet k ∧ (∀ r ∈ l.take i, r.may) ∧ ρ 0 = .slice a l.length c ∧ ρ 3 = .int .i64 i) l.length ⟨0, by omega, by omega, .refl _, by simp, by simp only [go_sem, simprocAttr]⟩ ?_
    rintro z ρ k ⟨i, hi, rfl, q, hall, r0, r3⟩
    simp only [go_sem, simprocAttr, r0, r3]
    refine cnd_decide (fun hy => ?_) (fun hy => ?_)
    · have h1 : i < l.length := by omega
      obtain ⟨b, off, sp, cc, md, m, mv, hA, _, hg, hmi, hmv, _, hle, hdt⟩ := IsSl.atR (hs.quiet q) h1
      obtain ⟨am, cm, rfl⟩ := hmv.shape
      have e9 : IntKind.i64.wrap ((i : Int) + 1) = ((i + 1 : Nat) : Int) := by rw [wi64] <;> omega
      simp only [go_sem, simprocAttr, r0, r3, h1, hA, hg, hle, hdt, rc_len, rc_one, rc_take, rc_put]
      refine cl_spec (RMay_ok hmv) (fun _ _ _ hc => absurd hc (by decide +kernel)) ?_
      rintro u k2 ⟨rfl, q2⟩
      by_cases hm : m.may
      · simp only [go_sem, simprocAttr, hm, decide_true, decide_false, r0, r3, e9]
        refine Hold.mk ⟨l.length - (i + 1), by omega, i + 1, by omega, rfl, q.trans q2, fun r hr => ?_, by simp only [go_sem, simprocAttr, r0, hA]⟩
        rw [List.take_add_one, hmi] at hr
        rcases List.mem_append.1 hr with hr | hr
        · exact hall r hr
        · obtain rfl : r = m := by simpa using hr
          exact hm
      · simp only [go_sem, simprocAttr, hm, decide_false, if_pos (show ∃ r ∈ l, ¬ r.may from ⟨m, List.mem_of_getElem? hmi, hm⟩)]
        exact q.trans q2
    · have : i = l.length := by omega
      subst this
      rw [List.take_length] at hall
      simp only [go_sem, simprocAttr, r0]
      exact Hold.mk ⟨q, hall, r0⟩
  · rintro ρ k ⟨q, hmay, r0⟩
    have c1 : ¬ ∃ r ∈ l, ¬ r.may := by rintro ⟨r, hr, e⟩; exact e (hmay r hr)
    have hsk := hs.quiet q
    simp only [go_sem, simprocAttr, r0]
    refine cl_spec (order_ok hsk hmay) (fun _ _ _ hc => absurd hc (by decide +kernel)) ?_
    rintro u k2 ⟨rfl, rfl⟩
    by_cases cb : badO l
    · have cb' : l.length < 2 ∨ (hdR l).kd ≠ 1 ∨ (tlR l).kd ≠ 4 ∨ ∃ r ∈ midR l, ¬ (r.kd = 2 ∨ r.kd = 3) := cb
      simp only [go_sem, simprocAttr, decide_eq_false (fun x : ¬ badO l => x cb), if_neg c1, if_pos cb']
      exact q
    · have cb' : ¬ (l.length < 2 ∨ (hdR l).kd ≠ 1 ∨ (tlR l).kd ≠ 4 ∨ ∃ r ∈ midR l, ¬ (r.kd = 2 ∨ r.kd = 3)) := cb
      have h2 : 2 ≤ l.length := by
        have := fun e => cb (.inl e)
        omega
      have hbet : ∀ r ∈ midR l, r.kd = 2 ∨ r.kd = 3 := fun r hr => Classical.byContradiction fun e => cb (.inr (.inr (.inr ⟨r, hr, e⟩)))
      obtain ⟨b, off, sp, cc, md, x, rfl, hg, hxi, hxI, x0, x6⟩ := IsSl.atF hsk (i := 0) (by omega)
      obtain ⟨b', off', sp', cc', md', y, hA', hg', hyi, _, y0, y6⟩ := IsSl.atF hsk (i := l.length - 1) (by omega)
      cases hA'
      obtain rfl : cc = cc' := by rw [hg] at hg'; cases hg'; rfl
      have hh : hdR l = x := by unfold hdR; rw [hxi]; rfl
      have ht : tlR l = y := by unfold tlR; rw [hyi]; rfl
      simp only [Nat.zero_mul, Nat.add_zero] at x0 x6
      have e1 : IntKind.i64.wrap ((l.length : Int) - 1) = ((l.length - 1 : Nat) : Int) := by rw [wi64] <;> omega
      have e2 : IntKind.i64.wrap ((l.length : Int) - 2) = (l.length : Int) - 2 := by rw [wi64] <;> omega
      have l0 : (0 : Int) < l.length := by omega
      have l1 : 0 < l.length := by omega
      have l2 : l.length - 1 < l.length := by omega
      have hxl : inJ x.ln := hxI.2.2.2.2.2.2
      have hml := mid_len (l := l)
      simp only [go_sem, simprocAttr, decide_eq_true cb, r0, hg, x6, l0, l1]
      rw [if_neg c1, if_neg cb', hh, ht]
      by_cases c6 : 1024 < x.ln
      · simp only [go_sem, simprocAttr, c6, decide_true, if_pos c6]
        exact q
      · simp only [go_sem, simprocAttr, c6, decide_false, if_neg c6, r0]
        refine go_loop (fun z ρ k' => ∃ (i : Nat) (last : Int), i + 1 ≤ l.length - 1 ∧ z = l.length - 1 - (i + 1) ∧ k2.quiet k' ∧ wkN x.ln 0 (midR l) = wkN x.ln last ((midR l).drop i) ∧ inJ last ∧ ρ 0 = .slice (some ⟨b, off, sp⟩) l.length c ∧ ρ 4 = .int .i64 last ∧ ρ 5 = .int .i64 (i + 1 : Nat)) (l.length - 1 - 1) ⟨0, 0, by omega, by omega, .refl _, rfl, by unfold inJ; simp, by simp only [go_sem, simprocAttr, r0]⟩ ?_
        rintro z ρ k' ⟨i, last, hi, rfl, q2, hwk, hlast, r0, r4, r5⟩
        simp only [go_sem, simprocAttr, r0, r4, r5, e1]
        have hgk := (q2.2 _ (AHeap.lt_of_alive k2 (by rw [hg]; simp))).trans hg
        by_cases hlt : i + 1 < l.length - 1
        · have hlt' : ((i + 1 : Nat) : Int) < ((l.length - 1 : Nat) : Int) := by omega
          obtain ⟨b3, off3, sp3, cc3, md3, m, mv, hA3, _, hg3, hmi, hmv, hmI, hle3, hdt3⟩ := IsSl.atR (hsk.quiet q2) (i := i + 1) (by omega)
          cases hA3
          obtain ⟨am, cm, rfl⟩ := hmv.shape
          have hil : i + 1 < l.length := by omega
          have e9 : IntKind.i64.wrap (((i + 1 : Nat) : Int) + 1) = ((i + 1 + 1 : Nat) : Int) := by rw [wi64] <;> omega
          have hmid : (midR l)[i]? = some m := by rw [mid_at (by omega)]; exact hmi
          have hmm := hmay m (List.mem_of_getElem? hmi)
          have hmb := hbet m (List.mem_of_getElem? hmid)
          have hmlen := hmv.len
          simp only [go_sem, simprocAttr, r0, r4, r5, hlt, hlt', decide_true, hil, hg3, hle3, hdt3, rc_len, rc_one, rc_take, rc_put]
          refine cl_spec (rop_ok hmv hmm hmb) (fun _ _ _ hc => absurd hc (by decide +kernel)) ?_
          rintro u k4 ⟨q4, ow, rfl, how⟩
          obtain ⟨ao, no, co, rfl⟩ : ∃ ax nx cx, ow = .slice ax nx cx := by obtain ⟨ax, cx, e⟩ := how.shape; exact ⟨ax, _, cx, e⟩
          simp only [go_sem, simprocAttr, r0, r4, r5, bo_len, bo_one, bo_take, bo_put]
          have qb : k4.quiet (k4.push (.cells (m.op.cs (.slice ao no co)) .rw)) := .push _ _
          have gb : (k4.push (.cells (m.op.cs (.slice ao no co)) .rw)).get k4.next = .cells (m.op.cs (.slice ao no co)) .rw := by simp
          generalize k4.push (.cells (m.op.cs (.slice ao no co)) .rw) = kb at qb gb
          have how2 := how.quiet qb
          refine cl_spec (RRange_ok (o := m.op) how2) (fun u h' hp _ => hp.2) ?_
          rintro u k5 ⟨rfl, q5⟩
          have gb5 := (q5.2 _ (AHeap.lt_of_alive kb (by rw [gb]; simp))).trans gb
          have hgk5 := (((q4.trans qb).trans q5).2 _ (AHeap.lt_of_alive k' (by rw [hgk]; simp))).trans hgk
          simp only [go_sem, simprocAttr, r0, r4, r5, l0, l1, hgk5, x6, gb5, bo_len, bo_one, bo_take, bo_put]
          refine cl_spec (RRight_ok (o := m.op) (op_inI hmI) hxl (how2.quiet q5)) (fun u h' hp _ => hp.2) ?_
          rintro u k6 ⟨rfl, q6⟩
          have qall := q2.trans (((q4.trans qb).trans q5).trans q6)
          have hdr : (midR l).drop i = m :: (midR l).drop (i + 1) := drop_cons hmid
          rw [hdr] at hwk
          obtain ⟨j1, j2⟩ := rng_inJ (op_inI hmI) (o := m.op) (by show m.data.length ≤ _; omega)
          by_cases f1 : m.op.fits x.ln
          · by_cases f2 : m.op.rng.1 < last
            · simp only [go_sem, simprocAttr, r0, r4, r5, f1, f2, decide_true, decide_false]
              have : wkN x.ln 0 (midR l) = false := by rw [hwk]; unfold wkN; rw [decide_eq_false (fun e => by omega)]; rfl
              rw [this]
              exact ⟨q.trans qall, by simp⟩
            · have ew : IntKind.i64.wrap (m.op.rng.1 + m.op.rng.2) = m.op.rng.1 + m.op.rng.2 := by have := f1.1; rw [wi64] <;> omega
              simp only [go_sem, simprocAttr, r0, r4, r5, f1, f2, decide_true, decide_false, ew, e9]
              refine Hold.mk ⟨l.length - 1 - (i + 1 + 1), by omega, i + 1, m.op.rng.1 + m.op.rng.2, by omega, rfl, qall, ?_, by have := f1.1; unfold inJ; omega, by simp only [go_sem, simprocAttr, r0]⟩
              rw [hwk]
              show (decide _ && _) = _
              rw [decide_eq_true ⟨f1, by omega⟩, Bool.true_and]
          · simp only [go_sem, simprocAttr, r0, r4, r5, f1, decide_true, decide_false]
            have : wkN x.ln 0 (midR l) = false := by rw [hwk]; unfold wkN; rw [decide_eq_false (fun e => f1 e.1)]; rfl
            rw [this]
            exact ⟨q.trans qall, by simp⟩
        · have hlt' : ¬ ((i + 1 : Nat) : Int) < ((l.length - 1 : Nat) : Int) := by omega
          rw [List.drop_of_length_le (by omega)] at hwk
          have : wkN x.ln 0 (midR l) = true := hwk
          rw [this]
          simp only [go_sem, simprocAttr, hlt, hlt', decide_false, r0, e1, e2, hgk, l2, y6]
          by_cases c7 : y.ln = (l.length : Int) - 2
          · simp only [go_sem, simprocAttr, c7, eq_self, decide_true]
            exact q.trans q2
          · simp only [go_sem, simprocAttr, c7, decide_false]
            exact q.trans q2
end
section
variable {h k h' : AHeap} {S S' Z : Nat → Prop} {v w : Value} {id : Nat} {l : List Rec}
theorem Acc.app2 {lo : Nat} {k0 : AHeap} {xs : List Rec} {y : Rec} {cs : List Value} (a : Acc lo k0 xs v) (q : k0.quiet k) (hlo : lo ≤ k0.next) (hy : rRec.R (fun j => j < lo ∨ k0.next ≤ j) k y cs) (hn : xs.length ≤ 1048577) :
    ∃ v' k', aappend k 8 80 v 1 cs = some (v', k') ∧ Acc lo k' (xs ++ [y]) v' ∧ Fw (fun j => lo ≤ j ∧ j < k0.next) k k' := by
  rcases a with a | ⟨id, n, rfl, h1, h2⟩
  · obtain ⟨v', k', e, hl, f, _⟩ := (a.quiet q).app1 (y := y) (cs := cs) (bytes := 80) 8 rfl (rRec.weaken hy fun j hj => ⟨trivial, fun e => by have := a.blk_ge e; omega⟩) (by omega) (by omega) (Nat.le_trans hlo q.1)
    exact ⟨v', k', e, .inl hl, f.mono fun j _ e => a.blk_ge e⟩
  · have hln := h2.len
    obtain ⟨v', k', e, hl, q'⟩ := IsSl.appx (h2.quiet q) (y := y) (cs := cs) (bytes := 80) 8 rfl (rRec.weaken hy fun j hj => trivial) (by omega) (by omega)
    exact ⟨v', k', e, .inl (hl.mono (Nat.le_trans hlo q.1) (Nat.le_refl _) (fun j hj _ _ => ⟨hj, rfl⟩) (fun _ _ _ => rfl)), .of_quiet q'⟩
theorem RBuild_ok {hd : Rec} {ops : List Bop} (hi : hd.inI) (hv : Words (· < h.next) h hd.data v) (hs : IsSl rBop (· < h.next) h ops w) (hn : ops.length ≤ 1048576) :
    Does Try.prog 9 #[.agg (hd.cs v).toArray, w] h (fun u h' => h.quiet h' ∧ ∃ x, u = .tuple #[x, .int .i64 (bldE hd ops)] ∧ IsSl rRec (fun _ => True) h' (if bldE hd ops = 0 then buildL hd ops else []) x) := by
  obtain ⟨a, c, rfl⟩ := hv.shape
  obtain ⟨a2, c3, rfl⟩ := hs.shape
  have hsl := hs.len
  refine spec_go mixed Try.func9 rfl Try.results9 (n := Try.f9.ntmps) (by kernel_rfl) (by simp) ?_
  simp only [go_sem, simprocAttr, rc_len, rc_one, rc_take, rc_put]
  have q0 : h.quiet (h.push (.cells (hd.cs (.slice a hd.data.length c)) .rw)) := .push _ _
  have g0 : (h.push (.cells (hd.cs (.slice a hd.data.length c)) .rw)).get h.next = .cells (hd.cs (.slice a hd.data.length c)) .rw := by simp
  have n0 : (h.push (.cells (hd.cs (.slice a hd.data.length c)) .rw)).next = h.next + 1 := by simp
  generalize h.push (.cells (hd.cs (.slice a hd.data.length c)) .rw) = k0 at q0 g0 n0
  have hv0 := hv.quiet q0
  simp only [go_sem, simprocAttr, g0, rc_0]
  unfold bldE
  by_cases c1 : hd.kd = 1
  · simp only [go_sem, simprocAttr, c1, eq_self, decide_true, g0, rc_len, rc_one, rc_take, rc_put]
    refine cl_spec (RMay_ok hv0) (fun u h' hp _ => hp.2) ?_
    rintro u k1 ⟨rfl, q1⟩
    have g1 := (q1.2 _ (by omega)).trans g0
    by_cases c2 : hd.may
    · rw [if_neg (fun e => e c2)]
      simp only [go_sem, simprocAttr, c2, decide_true, g1, rc_len, rc_one, rc_take, rc_put]
      have q2 : k1.quiet (k1.push (.cells (hd.cs (.slice a hd.data.length c)) .rw)) := .push _ _
      have hl0 : Acc k1.next (k1.push (.cells (hd.cs (.slice a hd.data.length c)) .rw)) [hd] (.slice (some ⟨k1.next, 0, none⟩) 1 1) :=
        .inr ⟨_, _, rfl, Nat.le_refl _, .fresh (css := [hd.cs (.slice a hd.data.length c)]) (.cons (rRec_iff.2 ⟨_, rfl, hi, (hv0.quiet (q1.trans q2)).weaken fun _ _ => trivial⟩) .nil) rfl (by decide) trivial (AHeap.get_push_self _ _) (by rw [List.flatten_cons, List.flatten_nil, List.append_nil])⟩
      generalize k1.push (.cells (hd.cs (.slice a hd.data.length c)) .rw) = k2 at q2 hl0
      have q02 := (q0.trans q1).trans q2
      refine go_cutb (fun ρ k => ∃ x, k1.quiet k ∧ Acc k1.next k (hd :: ops.map recO) x ∧ ρ 1 = .slice a2 ops.length c3 ∧ ρ 6 = x) ?_ ?_
      · refine go_loop (fun z ρ k => ∃ (i : Nat) (x : Value), i ≤ ops.length ∧ z = ops.length - i ∧ k1.quiet k ∧ Acc k1.next k (hd :: (ops.take i).map recO) x ∧ ρ 1 = .slice a2 ops.length c3 ∧ ρ 6 = x ∧ ρ 7 = .int .i64 i) ops.length ⟨0, _, by omega, by omega, q2, hl0, by simp only [go_sem, simprocAttr]⟩ ?_
        rintro z ρ k ⟨i, x, hii, rfl, q, hacc, r1, r6, r7⟩
        simp only [go_sem, simprocAttr, r1, r6, r7]
        refine cnd_decide (fun hy => ?_) (fun hy => ?_)
        · have h1 : i < ops.length := by omega
          obtain ⟨b, off, sp, cc, md, o, lv, hA, hbS, hg, hoi, hlv, hob, hle, hdt⟩ := IsSl.atO (hs.quiet ((q0.trans q1).trans q)) h1
          obtain ⟨al, nl, cl', rfl⟩ : ∃ ax nx cx, lv = .slice ax nx cx := by obtain ⟨ax, cx, e⟩ := hlv.shape; exact ⟨ax, _, cx, e⟩
          have e9 : IntKind.i64.wrap ((i : Int) + 1) = ((i + 1 : Nat) : Int) := by rw [wi64] <;> omega
          have x0 : cc[off + i * 4]? = some (.int .i64 o.kd) := by have := seg_get hdt (k := 0) (by omega); simp only [Nat.add_zero] at this; rwa [bo_0] at this
          have x1 : cc[off + i * 4 + 1]? = some (.int .i64 o.off) := by have := seg_get hdt (k := 1) (by omega); rwa [bo_1] at this
          have x2 : cc[off + i * 4 + 2]? = some (.int .i64 o.ln) := by have := seg_get hdt (k := 2) (by omega); rwa [bo_2] at this
          have x3 : cc[off + i * 4 + 3]? = some (.slice al nl cl') := by have := seg_get hdt (k := 3) (by omega); rwa [bo_3] at this
          have hlb : b < k.next := AHeap.lt_of_alive k (by rw [hg]; simp)
          have hgp : ∀ o', (k.push o').get b = .cells cc md := fun o' => by rw [AHeap.get_push_lt _ _ hlb]; exact hg
          have hxn : (hd :: (ops.take i).map recO).length = i + 1 := by simp; omega
          obtain ⟨ax, nx, cx, rfl⟩ : ∃ ax nx cx, x = .slice ax nx cx := by obtain ⟨ax, cx, e⟩ := hacc.isSl.shape; exact ⟨ax, _, cx, e⟩
          have step : ∀ kd : Int, inJ kd → ∃ v' k', aappend ((k.push (.cells [.int .i64 kd, .int .i64 0, .int .i64 0, .int .i64 0, .int .i64 0, .int .i64 o.off, .int .i64 o.ln, .slice al nl cl'] .rw)).push (.cells [.int .i64 kd, .int .i64 0, .int .i64 0, .int .i64 0, .int .i64 0, .int .i64 o.off, .int .i64 o.ln, .slice al nl cl'] .rw)) 8 80 (.slice ax nx cx) 1 [.int .i64 kd, .int .i64 0, .int .i64 0, .int .i64 0, .int .i64 0, .int .i64 o.off, .int .i64 o.ln, .slice al nl cl'] = some (v', k') ∧
              (∃ a n c, v' = .slice a n c) ∧ Acc k1.next k' ((hd :: (ops.take i).map recO) ++ [⟨kd, 0, 0, 0, 0, o.off, o.ln, o.data⟩]) v' ∧ k1.quiet k' := fun kd hkd => by
            have qq : k.quiet ((k.push (.cells [.int .i64 kd, .int .i64 0, .int .i64 0, .int .i64 0, .int .i64 0, .int .i64 o.off, .int .i64 o.ln, .slice al nl cl'] .rw)).push (.cells [.int .i64 kd, .int .i64 0, .int .i64 0, .int .i64 0, .int .i64 0, .int .i64 o.off, .int .i64 o.ln, .slice al nl cl'] .rw)) := (AHeap.quiet.push _ _).push' _
            obtain ⟨v', k', e, ha, f⟩ := hacc.app2 qq q.1 (y := ⟨kd, 0, 0, 0, 0, o.off, o.ln, o.data⟩) (rRec_iff.2 ⟨_, rfl, ⟨hkd, by unfold inJ; simp, by unfold inJ; simp, by unfold inJ; simp, by unfold inJ; simp, hob.2.1, hob.2.2⟩, (hlv.quiet qq).weaken fun j hj => .inl (by have := (q0.trans q1).1; omega)⟩) (by omega)
            obtain ⟨a', c', e'⟩ := ha.isSl.shape
            exact ⟨v', k', e, ⟨_, _, _, e'⟩, ha, Fw.behind (q.trans qq) f (fun j hj => hj.1)⟩
          have fin : ∀ kd, recO o = ⟨kd, 0, 0, 0, 0, o.off, o.ln, o.data⟩ → (hd :: (ops.take i).map recO) ++ [⟨kd, 0, 0, 0, 0, o.off, o.ln, o.data⟩] = hd :: (ops.take (i + 1)).map recO := fun kd e => by
            rw [List.take_add_one, hoi, ← e]; simp
          simp only [go_sem, simprocAttr, r1, r6, r7, h1, hA, hg, x0, x1, x2, x3, hgp]
          by_cases k1' : o.kd = 1
          · have ek : IntKind.i64.wrap ((1 : Int) + 1) = 2 := by decide
            obtain ⟨v', k', e, ⟨a', n', c', rfl⟩, ha, q'⟩ := step 2 (by unfold inJ; omega)
            have ek2 : IntKind.i64.wrap (2 : Int) = 2 := by decide
            simp only [go_sem, simprocAttr, k1', ek, ek2, eq_self, decide_true, decide_false, r1, r6, r7, e, e9]
            rw [fin 2 (by unfold recO; rw [if_pos k1'])] at ha
            exact Hold.mk ⟨ops.length - (i + 1), by omega, i + 1, _, by omega, rfl, q', ha, by simp only [go_sem, simprocAttr, r1, hA]⟩
          · by_cases k2' : o.kd = 2
            · have ek : IntKind.i64.wrap ((2 : Int) + 1) = 3 := by decide
              obtain ⟨v', k', e, ⟨a', n', c', rfl⟩, ha, q'⟩ := step 3 (by unfold inJ; omega)
              have ek2 : IntKind.i64.wrap (3 : Int) = 3 := by decide
              simp only [go_sem, simprocAttr, k1', k2', ek, ek2, eq_self, decide_true, decide_false, r1, r6, r7, h1, hA, hgp, x0, e, e9]
              rw [fin 3 (by unfold recO; rw [if_neg k1', if_pos k2'])] at ha
              exact Hold.mk ⟨ops.length - (i + 1), by omega, i + 1, _, by omega, rfl, q', ha, by simp only [go_sem, simprocAttr, r1, hA]⟩
            · obtain ⟨v', k', e, ⟨a', n', c', rfl⟩, ha, q'⟩ := step 0 (by unfold inJ; omega)
              simp only [go_sem, simprocAttr, k1', k2', decide_true, decide_false, r1, r6, r7, h1, hA, hgp, x0, e, e9]
              rw [fin 0 (by unfold recO; rw [if_neg k1', if_neg k2'])] at ha
              exact Hold.mk ⟨ops.length - (i + 1), by omega, i + 1, _, by omega, rfl, q', ha, by simp only [go_sem, simprocAttr, r1, hA]⟩
        · have : i = ops.length := by omega
          subst this
          rw [List.take_length] at hacc
          simp only [go_sem, simprocAttr, r1, r6]
          exact Hold.mk ⟨x, q, hacc, r1, r6⟩
      · rintro ρ k ⟨x, q, hacc, r1, r6⟩
        have hxn : (hd :: ops.map recO).length = ops.length + 1 := by simp
        obtain ⟨ax, nx, cx, rfl⟩ : ∃ ax nx cx, x = .slice ax nx cx := by obtain ⟨ax, cx, e⟩ := hacc.isSl.shape; exact ⟨ax, _, cx, e⟩
        have qq : k.quiet (k.push (.cells [.int .i64 4, .int .i64 0, .int .i64 0, .int .i64 0, .int .i64 0, .int .i64 0, .int .i64 ops.length, .slice none 0 0] .rw)) := .push _ _
        obtain ⟨v', k', e, ha, f⟩ := hacc.app qq q.1 (y := tailN ops.length) (cs := [.int .i64 4, .int .i64 0, .int .i64 0, .int .i64 0, .int .i64 0, .int .i64 0, .int .i64 ops.length, .slice none 0 0]) (rRec_iff.2 ⟨_, rfl, ⟨by unfold inJ tailN; simp, by unfold inJ tailN; simp, by unfold inJ tailN; simp, by unfold inJ tailN; simp, by unfold inJ tailN; simp, by unfold inJ tailN; simp, by unfold inJ tailN; simp; omega⟩, .nil _ _ _⟩) (by omega)
        rw [List.cons_append, show hd :: (ops.map recO ++ [tailN ops.length]) = buildL hd ops from rfl] at ha
        obtain ⟨a', c', rfl⟩ := ha.isSl.shape
        have q' : h.quiet k' := Fw.behind (((q0.trans q1).trans q).trans qq) f (fun j hj => by have := q0.1; have := q1.1; omega)
        simp only [go_sem, simprocAttr, r1, r6, e]
        refine cl_spec (RCheck_ok ha.isSl) (fun _ _ _ hc => absurd hc (by decide +kernel)) ?_
        rintro u k5 ⟨q5, rfl⟩
        by_cases ce : checkN (buildL hd ops) = 0
        · simp only [go_sem, simprocAttr, ce, eq_self, decide_true, decide_false, if_true]
          exact ⟨q'.trans q5, _, rfl, ha.isSl.quiet q5⟩
        · simp only [go_sem, simprocAttr, ce, decide_true, if_false]
          exact ⟨q'.trans q5, _, rfl, .nil _ _ _⟩
    · simp only [go_sem, simprocAttr, c2, decide_false]
      exact ⟨q0.trans q1, _, rfl, .nil _ _ _⟩
  · simp only [go_sem, simprocAttr, c1, decide_false]
    exact ⟨q0, _, rfl, .nil _ _ _⟩
end
theorem seg_take (l : List Rec) {n m : Nat} (h : n ≤ m) : l.take n ++ seg l n m = l.take m := by
  unfold seg
  rw [← List.take_append_drop n (l.take m), List.take_take, Nat.min_eq_left h, List.drop_take]
section
variable {h k h' : AHeap} {S S' Z : Nat → Prop} {v w : Value} {id : Nat} {l : List Rec}
theorem Load_over (s : SnAt S h id l) (h0 : 0 < l.length) : Does Try.prog 11 #[.pointer (some ⟨id, 0, none⟩), .int .i64 l.length] h (fun u h' => u = .tuple #[.slice none 0 0, .int .i64 0, .int .i64 16] ∧ h' = h) := by
  refine spec_go mixed Try.func11 rfl Try.results11 (n := Try.f11.ntmps) (by kernel_rfl) (by simp) ?_
  simp only [go_sem, simprocAttr]
  refine cl_spec (Many_ok s) (fun _ _ _ hc => absurd hc (by decide +kernel)) ?_
  rintro u k ⟨rfl, rfl⟩
  have c0 : ¬ (l.length : Int) = 0 := by omega
  have c1 : ¬ (l.length : Int) < 0 := by omega
  simp only [go_sem, simprocAttr, c0, c1, decide_false]
  refine cl_spec (Many_ok s) (fun _ _ _ hc => absurd hc (by decide +kernel)) ?_
  rintro u k ⟨rfl, rfl⟩
  have c2 : (l.length : Int) ≤ l.length := by omega
  simp only [go_sem, simprocAttr, c2, decide_true]
theorem bld_dat {hd : Rec} {ops : List Bop} (hv : Words (· < h.next) h hd.data v) (hs : IsSl rBop (· < h.next) h ops w) : ∀ r ∈ buildL hd ops, ∀ x ∈ r.data, x < 18446744073709551616 := fun r hr => by
  obtain ⟨a2, c2, rfl⟩ := hs.shape
  unfold buildL at hr
  rcases List.mem_cons.1 hr with rfl | hr
  · exact hv.lt64
  · rcases List.mem_append.1 hr with hr | hr
    · obtain ⟨o, ho, rfl⟩ := List.mem_map.1 hr
      obtain ⟨i, hi⟩ := List.mem_iff_getElem?.1 ho
      obtain ⟨_, _, _, _, _, x, lv, _, _, _, hxi, hlv, _, _, _⟩ := IsSl.atO hs (List.getElem?_eq_some_iff.1 hi).1
      rw [hi] at hxi; cases hxi
      exact hlv.lt64
    · obtain rfl : r = tailN ops.length := by simpa using hr
      intro x hx; cases hx
/-- What a load is parsed to. -/
theorem Parse_load {n : Nat} (ho : okL l) (hl : l ≠ []) (hb : Bytes S h (leB 8 n ++ encN l) v) (hn : n ≤ 2147483648) (hX : (encN l).length ≤ 1100) : Does Try.prog 12 #[v] h (fun u h' => h.quiet h' ∧ ∃ w, u = .tuple #[.int .i64 n, w, .int .i64 0] ∧ IsSl rRec (h.next ≤ ·) h' l w) :=
  (Parse_ok hb hn hX).mono fun u h' hp => by
    obtain ⟨hcl, hrd⟩ := clean_enc ho hl
    rw [hrd] at hp
    rcases hp with ⟨q, ⟨_, hw⟩ | ⟨e, _⟩⟩
    · exact ⟨q, hw⟩
    · exact absurd hcl e
theorem from_law {hd : Rec} {ops : List Bop} {at_ : Int} (hi : hd.inI) (hv : Words (· < h.next) h hd.data v) (hs : IsSl rBop (· < h.next) h ops w) (hn : ops.length ≤ 1048576) (hb : ∀ o ∈ ops, o.data.length ≤ 1048576) (hb0 : hd.data.length ≤ 1048576) :
    Does Try.prog 6 #[.agg (hd.cs v).toArray, w, .int .i64 at_] h (fun u _ => u = .bool true) := by
  have hdat := bld_dat hv hs
  obtain ⟨a, c, rfl⟩ := hv.shape
  obtain ⟨a2, c2, rfl⟩ := hs.shape
  refine spec_go mixed Try.func6 rfl Try.results6 (n := Try.f6.ntmps) (by kernel_rfl) (by simp) ?_
  simp only [go_sem, simprocAttr, rc_len, rc_one, rc_take, rc_put]
  have q0 : h.quiet (h.push (.cells (hd.cs (.slice a hd.data.length c)) .rw)) := .push _ _
  have g0 : (h.push (.cells (hd.cs (.slice a hd.data.length c)) .rw)).get h.next = .cells (hd.cs (.slice a hd.data.length c)) .rw := by simp
  have n0 : (h.push (.cells (hd.cs (.slice a hd.data.length c)) .rw)).next = h.next + 1 := by simp
  generalize h.push (.cells (hd.cs (.slice a hd.data.length c)) .rw) = k0 at q0 g0 n0
  have hv0 := (hv.weaken (S' := (· < k0.next)) (fun j hj => by omega)).quiet q0
  have hs0 := (hs.weaken (S' := (· < k0.next)) (fun j hj => by omega)).quiet q0
  refine cl_spec (New_ok hi hv0 hs0 hn hb hb0) (fun u h' hp _ => hp.1) ?_
  rintro u k1 ⟨q1, hp⟩
  have g1 := (q1.2 _ (by omega)).trans g0
  have hn1 := q1.1
  have hB := RBuild_ok hi ((hv0.weaken (S' := (· < k1.next)) (fun j hj => by omega)).quiet q1) ((hs0.weaken (S' := (· < k1.next)) (fun j hj => by omega)).quiet q1) hn
  by_cases he : bldE hd ops = 0
  · rw [if_pos he] at hp
    obtain ⟨id, rfl, hsn⟩ := hp
    have hmay := check_may (bld_check he)
    have hLl : (buildL hd ops).length = ops.length + 2 := by unfold buildL; simp
    have hok : okL (buildL hd ops) := fun r hr => ⟨hmay r hr, hdat r hr⟩
    simp only [go_sem, simprocAttr, g1, rc_len, rc_one, rc_take, rc_put]
    refine cl_spec hB (fun u h' hp _ => hp.1) ?_
    rintro u k2 ⟨q2, x, rfl, hx⟩
    rw [if_pos he] at hx
    rw [he]
    generalize buildL hd ops = L at *
    obtain ⟨ax, nx, cx, rfl, hnx⟩ : ∃ ax nx cx, x = .slice ax nx cx ∧ nx = L.length := by obtain ⟨ax, cx, e⟩ := hx.shape; exact ⟨ax, _, cx, e, rfl⟩
    subst hnx
    have c0 : ¬ (L.length : Int) = 0 := by omega
    obtain ⟨t1, t2, t3⟩ := tAt_eq (y := at_) (n := L.length) (by omega) (by omega)
    generalize tAt at_ L.length = n at t1 t3
    simp only [go_sem, simprocAttr, eq_self, decide_true, decide_false, c0, t2, t3]
    refine cl_spec (Load_ok (hsn.quiet q2) hmay t1 (by omega)) (fun _ _ _ hc => absurd hc (by decide +kernel)) ?_
    rintro u k3 ⟨q3, m, bw, h1, h2, h3, h4, rfl, hb3⟩
    have hsl := seg_len (n := n) h2
    have hokS : okL (seg L n m) := fun r hr => hok r (by unfold seg at hr; exact List.mem_of_mem_drop (List.mem_of_mem_take hr))
    have hb4 := hb3.isSl (S := fun _ => True) (fun _ e _ => e.elim) (fun _ _ => trivial)
    obtain ⟨ab, nb, cb, rfl⟩ : ∃ ax nx cx, bw = .slice ax nx cx := by obtain ⟨ax, cx, e⟩ := hb4.shape; exact ⟨ax, _, cx, e⟩
    simp only [go_sem, simprocAttr]
    refine cl_spec (Parse_load hokS (by intro e; rw [e] at hsl; simp at hsl; omega) hb4 (by omega) h3) (fun _ _ _ hc => absurd hc (by decide +kernel)) ?_
    rintro u k4 ⟨q4, lw, rfl, hl4⟩
    obtain ⟨al, nl, cl', rfl⟩ : ∃ ax nx cx, lw = .slice ax nx cx := by obtain ⟨ax, cx, e⟩ := hl4.shape; exact ⟨ax, _, cx, e⟩
    obtain ⟨a5, c5, e5, s5⟩ := ((hx.quiet q3).quiet q4).slice 8 rfl (l := n) (m := m) (by omega) h2
    have s5 : IsSl rRec (fun _ => True) k4 (seg L n m) (.slice a5 (m - n) c5) := s5
    have cm1 : (n : Int) < (m : Int) := by omega
    have cm2 : (m : Int) ≤ (L.length : Int) := by omega
    simp only [go_sem, simprocAttr, eq_self, decide_true, cm1, cm2, h1, h2, e5]
    refine cl_spec (Same_ok hl4 s5) (fun u h' hp _ => hp.2) ?_
    rintro u k5 ⟨rfl, q5⟩
    simp only [go_sem, simprocAttr, eq_self, decide_true]
    refine cl_spec ealive_ok (fun u h' hp _ => hp.2) ?_
    rintro u k6 ⟨rfl, q6⟩
    simp only [go_sem, simprocAttr, eq_self, decide_true]
  · rw [if_neg he] at hp
    obtain rfl := hp
    simp only [go_sem, simprocAttr, g1, rc_len, rc_one, rc_take, rc_put]
    refine cl_spec hB (fun u h' hp _ => hp.1) ?_
    rintro u k2 ⟨q2, x, rfl, hx⟩
    obtain ⟨ax, nx, cx, rfl⟩ : ∃ ax nx cx, x = .slice ax nx cx := by obtain ⟨ax, cx, e⟩ := hx.shape; exact ⟨ax, _, cx, e⟩
    simp only [go_sem, simprocAttr, he, eq_self, decide_true]
    refine cl_spec ealive_ok (fun u h' hp _ => hp.2) ?_
    rintro u k6 ⟨rfl, q6⟩
    simp only [go_sem, simprocAttr, eq_self, decide_true]
theorem all_law {hd : Rec} {ops : List Bop} (hi : hd.inI) (hv : Words (· < h.next) h hd.data v) (hs : IsSl rBop (· < h.next) h ops w) (hn : ops.length ≤ 1048576) (hb : ∀ o ∈ ops, o.data.length ≤ 1048576) (hb0 : hd.data.length ≤ 1048576) :
    Does Try.prog 3 #[.agg (hd.cs v).toArray, w] h (fun u _ => u = .bool true) := by
  have hdat := bld_dat hv hs
  obtain ⟨a, c, rfl⟩ := hv.shape
  obtain ⟨a2, c2, rfl⟩ := hs.shape
  refine spec_go mixed Try.func3 rfl Try.results3 (n := Try.f3.ntmps) (by kernel_rfl) (by simp) ?_
  simp only [go_sem, simprocAttr, rc_len, rc_one, rc_take, rc_put]
  have q0 : h.quiet (h.push (.cells (hd.cs (.slice a hd.data.length c)) .rw)) := .push _ _
  have g0 : (h.push (.cells (hd.cs (.slice a hd.data.length c)) .rw)).get h.next = .cells (hd.cs (.slice a hd.data.length c)) .rw := by simp
  have n0 : (h.push (.cells (hd.cs (.slice a hd.data.length c)) .rw)).next = h.next + 1 := by simp
  generalize h.push (.cells (hd.cs (.slice a hd.data.length c)) .rw) = k0 at q0 g0 n0
  have hv0 := (hv.weaken (S' := (· < k0.next)) (fun j hj => by omega)).quiet q0
  have hs0 := (hs.weaken (S' := (· < k0.next)) (fun j hj => by omega)).quiet q0
  refine cl_spec (New_ok hi hv0 hs0 hn hb hb0) (fun u h' hp _ => hp.1) ?_
  rintro u k1 ⟨q1, hp⟩
  have g1 := (q1.2 _ (by omega)).trans g0
  have hn1 := q1.1
  have hB := RBuild_ok hi ((hv0.weaken (S' := (· < k1.next)) (fun j hj => by omega)).quiet q1) ((hs0.weaken (S' := (· < k1.next)) (fun j hj => by omega)).quiet q1) hn
  by_cases he : bldE hd ops = 0
  · rw [if_pos he] at hp
    obtain ⟨id, rfl, hsn⟩ := hp
    have hmay := check_may (bld_check he)
    have hLl : (buildL hd ops).length = ops.length + 2 := by unfold buildL; simp
    have hok : okL (buildL hd ops) := fun r hr => ⟨hmay r hr, hdat r hr⟩
    simp only [go_sem, simprocAttr, g1, eq_self, decide_true, decide_false, rc_len, rc_one, rc_take, rc_put]
    refine cl_spec hB (fun u h' hp _ => hp.1) ?_
    rintro u k2 ⟨q2, x, rfl, hx⟩
    rw [if_pos he] at hx
    rw [he]
    generalize buildL hd ops = L at *
    obtain ⟨ax, nx, cx, rfl, hnx⟩ : ∃ ax nx cx, x = .slice ax nx cx ∧ nx = L.length := by obtain ⟨ax, cx, e⟩ := hx.shape; exact ⟨ax, _, cx, e, rfl⟩
    subst hnx
    have hsn2 : SnAt (· < k2.next) k2 id L := (hsn.quiet q2).mono fun j _ hl => ⟨hl, rfl⟩
    have hx2 := hx.bound
    simp only [go_sem, simprocAttr]
    refine go_cutb (fun ρ k => ∃ gv, k2.quiet k ∧ Lst rRec k2.next (k2.next ≤ ·) k L gv ∧ ρ 5 = .pointer (some ⟨id, 0, none⟩) ∧ ρ 7 = .slice ax L.length cx ∧ ρ 8 = .int .i64 0 ∧ ρ 9 = gv) ?_ ?_
    · refine go_loop (fun z ρ k => ∃ (n : Nat) (gv : Value), n ≤ L.length ∧ z = L.length - n ∧ k2.quiet k ∧ Lst rRec k2.next (k2.next ≤ ·) k (L.take n) gv ∧ ρ 5 = .pointer (some ⟨id, 0, none⟩) ∧ ρ 7 = .slice ax L.length cx ∧ ρ 8 = .int .i64 0 ∧ ρ 9 = gv ∧ ρ 10 = .int .i64 n) L.length ⟨0, _, by omega, by omega, .refl _, .nil _ _ _ _, by simp only [go_sem, simprocAttr]⟩ ?_
      rintro z ρ k ⟨n, gv, hnl, rfl, q, hg, r5, r7, r8, r9, r10⟩
      simp only [go_sem, simprocAttr, r5, r7, r8, r9, r10]
      refine cl_spec (Many_ok (hsn2.quiet q)) (fun _ _ _ hc => absurd hc (by decide +kernel)) ?_
      rintro u k' ⟨rfl, rfl⟩
      simp only [go_sem, simprocAttr, r5, r7, r8, r9, r10]
      refine cnd_decide (fun hy => ?_) (fun hy => ?_)
      · have t1 : n < L.length := by omega
        simp only [go_sem, simprocAttr, r5, r7, r8, r9, r10]
        refine cl_spec (Load_ok (hsn2.quiet q) hmay t1 (by omega)) (fun _ _ _ hc => absurd hc (by decide +kernel)) ?_
        rintro u k3 ⟨q3, m, bw, h1, h2, h3, h4, rfl, hb3⟩
        have hsl := seg_len (n := n) h2
        have hokS : okL (seg L n m) := fun r hr => hok r (by unfold seg at hr; exact List.mem_of_mem_drop (List.mem_of_mem_take hr))
        have hb4 := hb3.isSl (S := fun _ => True) (fun _ e _ => e.elim) (fun _ _ => trivial)
        obtain ⟨ab, nb, cb, rfl, hnb⟩ : ∃ ax nx cx, bw = .slice ax nx cx ∧ nx = 8 + (encN (seg L n m)).length := by obtain ⟨ax, cx, e⟩ := hb4.shape; exact ⟨ax, _, cx, e, by rw [List.length_append, leB_length]⟩
        simp only [go_sem, simprocAttr, r5, r7, r8, r9, r10]
        refine cl_spec (Parse_load hokS (by intro e; rw [e] at hsl; simp at hsl; omega) hb4 (by omega) h3) (fun _ _ _ hc => absurd hc (by decide +kernel)) ?_
        rintro u k4 ⟨q4, lw, rfl, hl4⟩
        obtain ⟨al, nl, cl', rfl, hnl4⟩ : ∃ ax nx cx, lw = .slice ax nx cx ∧ nx = (seg L n m).length := by obtain ⟨ax, cx, e⟩ := hl4.shape; exact ⟨ax, _, cx, e, rfl⟩
        rw [hsl] at hnl4
        subst hnl4
        have cm1 : ¬ (m : Int) ≤ (n : Int) := by omega
        have cm1' : ¬ m ≤ n := by omega
        have ew : IntKind.i64.wrap ((m : Int) - (n : Int)) = ((m - n : Nat) : Int) := by rw [wi64] <;> omega
        have cb : ¬ (1108 : Int) < (nb : Int) := by omega
        have q34 := q3.trans q4
        obtain ⟨css, eac, hall⟩ := hl4.acells 8 rfl
        obtain ⟨gl, gn, gc, rfl⟩ : ∃ ax nx cx, gv = .slice ax nx cx := by obtain ⟨ax, cx, e, _⟩ := hg.len; exact ⟨ax, _, cx, e⟩
        have htl : (L.take n).length = n := by rw [List.length_take]; omega
        obtain ⟨gv', k5, e5, hg5, f5, _⟩ := (hg.quiet q34).app (ys := seg L n m) (css' := css) 8 rfl (bytes := 80) (n := m - n) (hall.moves fun j hj hjl => ⟨⟨by have := q.1; have := q3.1; omega, fun e => by have := (hg.blk_ge e).2; have := q3.1; omega⟩, rfl⟩) hsl (by omega) (by omega) (by have := q.1; have := q34.1; omega)
        rw [seg_take L (by omega)] at hg5
        obtain ⟨g5l, g5n, g5c, rfl⟩ : ∃ ax nx cx, gv' = .slice ax nx cx := by obtain ⟨ax, cx, e, _⟩ := hg5.len; exact ⟨ax, _, cx, e⟩
        simp only [go_sem, simprocAttr, r5, r7, r8, r9, r10, eq_self, decide_true, decide_false, cm1, cm1', ew, cb, eac, hall.ones, e5]
        exact Hold.mk ⟨L.length - m, by omega, m, _, h2, rfl, Fw.behind (q.trans q34) f5 (fun j e => (hg.blk_ge e).1), hg5, by simp only [go_sem, simprocAttr, r5, r7, r8]⟩
      · have : n = L.length := by omega
        subst this
        rw [List.take_length] at hg
        simp only [go_sem, simprocAttr, r5, r7, r8, r9]
        exact Hold.mk ⟨gv, q, hg, r5, r7, r8, r9⟩
    · rintro ρ k ⟨gv, q, hg, r5, r7, r8, r9⟩
      have hgs := hg.isSl (S := fun _ => True) (fun _ _ _ => trivial) (fun _ _ => trivial)
      obtain ⟨gl, gn, gc, rfl⟩ : ∃ ax nx cx, gv = .slice ax nx cx := by obtain ⟨ax, cx, e, _⟩ := hg.len; exact ⟨ax, _, cx, e⟩
      simp only [go_sem, simprocAttr, r5, r7, r8, r9]
      refine cl_spec (Many_ok (hsn2.quiet q)) (fun _ _ _ hc => absurd hc (by decide +kernel)) ?_
      rintro u k' ⟨rfl, rfl⟩
      simp only [go_sem, simprocAttr, r5, r7, r8, r9]
      refine cl_spec (Load_over (hsn2.quiet q) (by omega)) (fun _ _ _ hc => absurd hc (by decide +kernel)) ?_
      rintro u k' ⟨rfl, rfl⟩
      simp only [go_sem, simprocAttr, r5, r7, r8, r9, eq_self, decide_true]
      refine cl_spec (Same_ok hgs (hx.quiet q)) (fun u h' hp _ => hp.2) ?_
      rintro u k5 ⟨rfl, q5⟩
      simp only [go_sem, simprocAttr, eq_self, decide_true]
      refine cl_spec ealive_ok (fun u h' hp _ => hp.2) ?_
      rintro u k6 ⟨rfl, q6⟩
      simp only [go_sem, simprocAttr, eq_self, decide_true]
  · rw [if_neg he] at hp
    obtain rfl := hp
    simp only [go_sem, simprocAttr, he, decide_true]
    refine cl_spec ealive_ok (fun u h' hp _ => hp.2) ?_
    rintro u k6 ⟨rfl, q6⟩
    simp only [go_sem, simprocAttr, eq_self, decide_true]
end
end Go.Proofs.Ytolnacokdjognaa
