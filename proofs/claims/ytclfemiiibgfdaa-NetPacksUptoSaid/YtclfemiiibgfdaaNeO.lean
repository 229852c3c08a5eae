/- net: the document's bag. -/
import Derived.Test.YtclfemiiibgfdaaNeN
set_option linter.unusedSimpArgs false
set_option linter.unusedVariables false
set_option linter.unnecessarySimpa false
set_option maxRecDepth 100000
namespace Go.Proofs.Ytclfemiiibgfdaa
open Go.AM

def rGr : Rep (List Nat × Bool) := .pair rB.list .bool
theorem rGr_iff {S : Nat → Prop} {h : AHeap} {x : List Nat × Bool} {cs : List Value} : rGr.R S h x cs ↔ ∃ v, cs = [v, .bool x.2] ∧ Bytes S h x.1 v := by
  constructor
  · rintro ⟨c1, c2, rfl, ⟨v, rfl, hv⟩, rfl⟩
    exact ⟨v, rfl, hv⟩
  · rintro ⟨v, rfl, hv⟩
    exact ⟨_, _, rfl, ⟨v, rfl, hv⟩, rfl⟩
theorem IsSl.atG {S : Nat → Prop} {h : AHeap} {xs : List (List Nat × Bool)} {a : Option Addr} {n cap : Nat} (hs : IsSl rGr S h xs (.slice a n cap)) {i : Nat} (hi : i < n) :
    ∃ b off sp c md x lv, a = some ⟨b, off, sp⟩ ∧ S b ∧ h.get b = .cells c md ∧ xs[i]? = some x ∧ Bytes S h x.1 lv ∧ off + i * 2 + 2 ≤ c.length ∧ (c.drop (off + i * 2)).take 2 = [lv, .bool x.2] ∧ c[off + i * 2]? = some lv ∧ c[off + i * 2 + 1]? = some (.bool x.2) := by
  obtain ⟨b, off, sp, c, md, cs, x, h1, h2, h3, h4, h5, h6, h7⟩ := hs.at 2 rfl hi
  obtain ⟨lv, rfl, h8⟩ := rGr_iff.1 h5
  have k0 := seg_get h7 (k := 0) (by omega)
  have k1 := seg_get h7 (k := 1) (by omega)
  exact ⟨b, off, sp, c, md, x, lv, h1, h2, h3, h4, h8, h6, h7, k0, k1⟩
/-- The document's bag. -/
def RAt (Z : Nat → Prop) (h : AHeap) (rid : Nat) (dl : List (List Nat × Bool)) : Prop :=
  Z rid ∧ (∃ a c, h.get rid = .cells [.slice a dl.length c] .rw ∧ IsSl rGr (fun j => Z j ∧ j ≠ rid) h dl (.slice a dl.length c)) ∧ dl.length ≤ 256 ∧ ∀ x ∈ dl, x.1.length ≤ 1048576
section
variable {h k k1 k2 : AHeap} {S S' Z Z' : Nat → Prop} {v w : Value} {rid : Nat} {dl dl' : List (List Nat × Bool)}
theorem RAt.lt (b : RAt Z h rid dl) : rid < h.next := by obtain ⟨_, ⟨a, c, hg, _⟩, _⟩ := b; exact AHeap.lt_of_alive h (by rw [hg]; simp)
theorem RAt.mono (b : RAt Z h rid dl) (hm : ∀ j, Z j → j < h.next → Z' j ∧ k.get j = h.get j) : RAt Z' k rid dl := by
  have hlt := b.lt
  obtain ⟨hz, ⟨a, c, hg, hs⟩, hn, hb⟩ := b
  exact ⟨(hm rid hz hlt).1, ⟨a, c, by rw [(hm rid hz hlt).2]; exact hg, hs.mono fun j hj hl => ⟨⟨(hm j hj.1 hl).1, hj.2⟩, (hm j hj.1 hl).2⟩⟩, hn, hb⟩
theorem RAt.quiet (b : RAt Z h rid dl) (q : h.quiet k) : RAt Z k rid dl := b.mono fun j hj hl => ⟨hj, q.2 j hl⟩
theorem RAt.bound (b : RAt Z h rid dl) : RAt (fun j => Z j ∧ j < h.next) h rid dl := b.mono fun j hj hl => ⟨⟨hj, hl⟩, rfl⟩
/-- A new list. -/
theorem RAt.done (b : RAt Z k rid dl) (q : k.quiet k2) (hl : Lst rGr k.next (fun j => upZ Z k j ∧ j ≠ rid) k2 dl' v) (hn : dl'.length ≤ 256) (hb : ∀ x ∈ dl', x.1.length ≤ 1048576) :
    ∃ w, k2.get rid = .cells [w] .rw ∧ k.get rid = .cells [w] .rw ∧ (∃ a n c, w = .slice a n c) ∧ (∃ a c, v = .slice a dl'.length c) ∧ RAt (upZ Z k) (k2.set rid (.cells [v] .rw)) rid dl' ∧ Fw (· = rid) k (k2.set rid (.cells [v] .rw)) := by
  have hlt := b.lt
  obtain ⟨hz, ⟨a, c, hg, hs⟩, hn0, hb0⟩ := b
  obtain ⟨a', c', rfl, _⟩ := hl.len
  have hlt2 := Nat.lt_of_lt_of_le hlt q.1
  refine ⟨_, (q.2 _ hlt).trans hg, hg, ⟨_, _, _, rfl⟩, ⟨_, _, rfl⟩, ⟨.inl hz, ⟨a', c', AHeap.get_set_self _ _ hlt2, ?_⟩, hn, hb⟩, Fw.after q (Fw.set _)⟩
  refine (hl.isSl (S := fun j => upZ Z k j ∧ j ≠ rid) (fun j hj _ => hj) (fun j hj => ⟨.inr hj, by omega⟩)).mono fun j hj _ => ⟨hj, AHeap.get_set_ne _ _ (Ne.symm hj.2)⟩
/-- A copy of the list. -/
theorem RAt.copy (b : RAt Z k rid dl) : ∃ (a : Option Addr) (c : Nat) (css : List (List Value)) (v0 : Value) (k0 : AHeap), k.get rid = .cells [.slice a dl.length c] .rw ∧ IsSl rGr (fun j => Z j ∧ j ≠ rid) k dl (.slice a dl.length c) ∧ AM.acells k 2 dl.length (.slice a dl.length c) = some css.flatten ∧ css.flatten.all one = true ∧
    aappend k 2 32 (.slice none 0 0) dl.length css.flatten = some (v0, k0) ∧ k.quiet k0 ∧ Lst rGr k.next (fun j => upZ Z k j ∧ j ≠ rid) k0 dl v0 := by
  obtain ⟨hz, ⟨a, c, hg, hs⟩, hn, hb⟩ := b
  obtain ⟨css, e, ha⟩ := hs.acells 2 rfl
  obtain ⟨v0, k0, e0, hl0, f0, _⟩ := (Lst.nil rGr k.next (fun j => upZ Z k j ∧ j ≠ rid) k).app (ys := dl) (css' := css) 2 rfl (bytes := 32) (n := dl.length) (ha.moves fun j hj hl => ⟨⟨⟨.inl hj.1, hj.2⟩, by simp⟩, rfl⟩) rfl (by simp; omega) (by simp; omega) (Nat.le_refl _)
  exact ⟨a, c, css, v0, k0, hg, hs, e, ha.ones, e0, f0.quiet (fun j _ e => by cases e), by simpa using hl0⟩
theorem rhas_ok (b : RAt Z h rid dl) {i : Int} : Does Try.prog 42 #[.pointer (some ⟨rid, 0, none⟩), .int .i64 i] h (fun u h' => u = .bool (decide (0 ≤ i ∧ i < (dl.length : Int))) ∧ h' = h) := by
  obtain ⟨hz, ⟨a, c, hg, hs⟩, hn, hb⟩ := b
  refine spec_go mixed Try.func42 rfl Try.results42 (n := Try.f42.ntmps) (by kernel_rfl) (by simp) ?_
  simp only [go_sem, simprocAttr]
  by_cases h0 : 0 ≤ i
  · simp only [go_sem, simprocAttr, h0, hg, true_and]
  · simp only [go_sem, simprocAttr, h0, hg, false_and, decide_false]
theorem rbTwice_ok (b : RAt Z h rid dl) {i : Int} :
    Does Try.prog 21 #[.pointer (some ⟨rid, 0, none⟩), .int .i64 i] h (fun u h' => Fw (· = rid) h h' ∧ if i < 0 ∨ (dl.length : Int) ≤ i then u = .int .i64 9 ∧ h' = h else if 256 ≤ dl.length then u = .int .i64 6 ∧ h' = h
      else u = .int .i64 0 ∧ ∃ x, dl[i.toNat]? = some x ∧ RAt (upZ Z h) h' rid (dl ++ [x])) := by
  refine spec_go mixed Try.func21 rfl Try.results21 (n := Try.f21.ntmps) (by kernel_rfl) (by simp) ?_
  simp only [go_sem, simprocAttr]
  refine cl_spec (rhas_ok b) (fun _ _ _ hc => absurd hc (by decide +kernel)) ?_
  rintro u k ⟨rfl, rfl⟩
  obtain ⟨a, c, css, v0, k0, hg, hs, e, ho, e0, q0, hl0⟩ := b.copy
  by_cases h0 : i < 0 ∨ (dl.length : Int) ≤ i
  · have h0' : ¬ (0 ≤ i ∧ i < (dl.length : Int)) := by omega
    simp only [go_sem, simprocAttr, h0', if_pos h0, decide_false]
    exact .refl _ _
  · obtain ⟨n, rfl⟩ : ∃ n : Nat, i = n := ⟨i.toNat, by omega⟩
    have hn : n < dl.length := by omega
    have hn' : ((n : Int) < (dl.length : Int)) = True := eq_true (by omega)
    have h0' : ((0 : Int) ≤ n) = True := eq_true (by omega)
    have hn2 : ¬ dl.length ≤ n := by omega
    by_cases h1 : 256 ≤ dl.length
    · have h1' : (256 : Int) ≤ dl.length := by omega
      simp only [go_sem, simprocAttr, h0', hn', hg, h1', true_and, decide_true, if_pos h1, if_neg h0, if_neg hn2]
      exact .refl _ _
    · have h1' : ¬ (256 : Int) ≤ dl.length := by omega
      obtain ⟨b', off, sp, cc, md, x, lv, rfl, hz', hg', hxi, hx, hle, hdt, _, _⟩ := IsSl.atG hs hn
      have hlt' := AHeap.lt_of_alive k (i := b') (by rw [hg']; simp)
      have hg0 := (q0.2 _ hlt').trans hg'
      have hgr := (q0.2 _ b.lt).trans hg
      obtain ⟨al, cl, rfl⟩ := hx.shape
      have q1 : k.quiet (k0.push (.cells [.slice al x.1.length cl, .bool x.2] .rw)) := q0.push' _
      obtain ⟨v2, k2, e2, hl2, f2, _⟩ := (hl0.quiet (.push k0 (.cells [.slice al x.1.length cl, .bool x.2] .rw))).app1 (y := x) (cs := [.slice al x.1.length cl, .bool x.2]) (bytes := 32) 2 rfl (rGr_iff.2 ⟨_, rfl, hx.mono fun j hj hl => ⟨⟨⟨.inl hj.1, hj.2⟩, fun e => by have := (hl0.blk_ge e).1; omega⟩, q1.2 j hl⟩⟩) (by omega) (by omega) q1.1
      have q2 : k.quiet k2 := Fw.behind q1 f2 (fun j hj => (hl0.blk_ge hj).1)
      obtain ⟨_, g2, g2', ⟨p1, p2, p3, rfl⟩, ⟨p4, p5, rfl⟩, bb, ff⟩ := b.done q2 hl2 (by simp; omega) (fun y hy => by
        rcases List.mem_append.1 hy with hy | hy
        · exact b.2.2.2 y hy
        · obtain rfl : y = x := by simpa using hy
          exact b.2.2.2 y (List.mem_of_getElem? hxi))
      have hlt2 := AHeap.lt_of_alive k2 (i := rid) (by rw [g2]; simp)
      simp only [go_sem, simprocAttr, h0', hn', hg, h1', true_and, decide_true, decide_false, e, ho, e0, hgr, hg0, hle, hdt, e2, g2, if_neg h0, if_neg h1, if_neg hn2]
      exact ⟨ff, x, hxi, bb⟩
/-- Bytes that are copied. -/
theorem copyB {x : List Nat} (hx : ∀ n ∈ x, (n : Int) ≤ IntKind.u8.max) (hn : x.length ≤ 1048576) : ∃ v1 k1, aappend k 1 1 (.slice none 0 0) x.length (x.map fun n => .int .u8 (n : Nat)) = some (v1, k1) ∧ k.quiet k1 ∧ Lst rB k.next (fun _ => False) k1 x v1 := by
  obtain ⟨v3, k3, e, hl3, hf3, hn3⟩ := (Lst.nil rB k.next (fun _ => False) k).app (ys := x) 1 rfl (bytes := 1) (n := x.length) (nat_all2 hx) rfl (by simp; omega) (by simp; omega) (Nat.le_refl _)
  rw [nat_flat] at e
  exact ⟨v3, k3, e, hf3.quiet (fun j _ h => by cases h), by simpa using hl3⟩
theorem rbPut_ok (b : RAt Z h rid dl) {l : List (List Nat)} (hl : IsSl rB.list S h l w) (hS : ∀ j, S j → j ≠ rid) (hb : ∀ x ∈ l, x.length ≤ 1048576) :
    Does Try.prog 19 #[.pointer (some ⟨rid, 0, none⟩), w] h (fun u h' => u = .int .i64 (min l.length (256 - dl.length) : Nat) ∧ RAt (upZ Z h) h' rid (dl ++ (l.take (256 - dl.length)).map fun x => (x, false)) ∧ Fw (· = rid) h h') := by
  obtain ⟨a, c, rfl⟩ := hl.shape
  have hll := hl.len
  have hfew := b.2.2.1
  refine spec_go mixed Try.func19 rfl Try.results19 (n := Try.f19.ntmps) (by kernel_rfl) (by simp) ?_
  simp only [go_sem, simprocAttr]
  refine go_loop (fun z ρ k => ∃ (i : Nat), i ≤ min l.length (256 - dl.length) ∧ z = min l.length (256 - dl.length) - i ∧ RAt (upZ Z h) k rid (dl ++ (l.take i).map fun x => (x, false)) ∧ Fw (· = rid) h k ∧ ρ 0 = .pointer (some ⟨rid, 0, none⟩) ∧ ρ 1 = .slice a l.length c ∧ ρ 5 = .int .i64 i ∧ ρ 6 = .int .i64 i) (min l.length (256 - dl.length)) ⟨0, by omega, by omega, by simpa using b.mono (fun j hj _ => ⟨.inl hj, rfl⟩), .refl _ _, by simp only [go_sem, simprocAttr]⟩ ?_
  rintro z ρ k ⟨i, hi, rfl, bk, f, r0, r1, r5, r6⟩
  obtain ⟨a1, c1, css, v0, k0, hg, hs, e, ho, e0, q0, hl0⟩ := bk.copy
  have hdl : (dl ++ (l.take i).map fun x => (x, false)).length = dl.length + i := by simp; omega
  generalize hdd : (dl ++ (l.take i).map fun x => (x, false)) = dd at *
  simp only [go_sem, simprocAttr, r0, r1, r5, r6]
  by_cases h1 : i < l.length
  · by_cases h2 : dl.length + i < 256
    · have h2' : (dd.length : Int) < 256 := by omega
      have h1' : (i : Int) < l.length := by omega
      obtain ⟨b', off, sp, cc, md, x, xv, rfl, hSb, hg', hxi, hx, hc⟩ := (hl.fr f (fun j hj _ => hS j hj)).atL h1
      obtain ⟨ax, cx, rfl⟩ := hx.shape
      have hxl := hb x (List.mem_of_getElem? hxi)
      have hlt' := AHeap.lt_of_alive k (i := b') (by rw [hg']; simp)
      have hg0 := (q0.2 _ hlt').trans hg'
      obtain ⟨v1, k1, e1, q1, hl1⟩ := copyB (k := k0) (fun n hn => hx.vals rfl n hn) hxl
      obtain ⟨au, cu, hue, _⟩ := hl1.len
      subst hue
      have q3 : k.quiet (k1.push (.cells [.slice au x.length cu, .bool false] .rw)) := (q0.trans q1).push' _
      have hxu : Bytes (k0.next ≤ ·) (k1.push (.cells [.slice au x.length cu, .bool false] .rw)) x (.slice au x.length cu) := (hl1.isSl (fun _ e _ => e.elim) (fun _ e => e)).quiet (.push _ _)
      obtain ⟨v2, k2, e2, hl2, f2, _⟩ := ((hl0.quiet q1).quiet (.push k1 (.cells [.slice au x.length cu, .bool false] .rw))).app1 (y := (x, false)) (cs := [.slice au x.length cu, .bool false]) (bytes := 32) 2 rfl (rGr_iff.2 ⟨_, rfl, hxu.mono fun j hj hl => ⟨⟨⟨.inr (Nat.le_trans q0.1 hj), by have := bk.lt; have := q0.1; omega⟩, fun e => by have := (hl0.blk_ge e).2; omega⟩, rfl⟩⟩) (by omega) (by omega) q3.1
      have q2 : k.quiet k2 := Fw.behind q3 f2 (fun j hj => (hl0.blk_ge hj).1)
      obtain ⟨_, g2, g2', ⟨p1, p2, p3, rfl⟩, ⟨p4, p5, rfl⟩, bb, ff⟩ := bk.done q2 hl2 (by simp; omega) (fun y hy => by
        rcases List.mem_append.1 hy with hy | hy
        · exact bk.2.2.2 y hy
        · obtain rfl : y = (x, false) := by simpa using hy
          exact hxl)
      have hlt2 := AHeap.lt_of_alive k2 (i := rid) (by rw [g2]; simp)
      have e9 : IntKind.i64.wrap ((i : Int) + 1) = ((i + 1 : Nat) : Int) := by rw [wi64] <;> omega
      simp only [go_sem, simprocAttr, r0, r1, r5, r6, h1, h1', h2', decide_true, hg, hg0, hc, e, ho, e0, (hx.quiet q0).acellsN, e1, e2, g2, e9]
      refine Hold.mk ⟨min l.length (256 - dl.length) - (i + 1), by omega, i + 1, by omega, rfl, ?_, f.trans ff (fun _ _ e => e) (fun _ _ e => e), by simp only [go_sem, simprocAttr, r0, r1]⟩
      have ed : (dl ++ (l.take (i + 1)).map fun x => (x, false)) = dd ++ [(x, false)] := by rw [← hdd, List.take_add_one, hxi]; simp
      rw [ed]
      exact bb.mono fun j hj _ => ⟨upZ_upZ f.1 hj, rfl⟩
    · have h2' : ¬ (dd.length : Int) < 256 := by omega
      have h1' : (i : Int) < l.length := by omega
      simp only [go_sem, simprocAttr, r0, r1, r6, h1, h1', hg, h2', decide_true, decide_false, r5]
      have : i = min l.length (256 - dl.length) := by omega
      subst this
      refine ⟨rfl, ?_, f⟩
      rw [List.take_eq_take_min, Nat.min_comm, hdd]
      exact bk
  · have h1' : ¬ (i : Int) < l.length := by omega
    simp only [go_sem, simprocAttr, r0, r1, r6, h1, h1', decide_false, r5]
    have : i = min l.length (256 - dl.length) := by omega
    subst this
    refine ⟨rfl, ?_, f⟩
    rw [List.take_eq_take_min, Nat.min_comm, hdd]
    exact bk
theorem rbTake_ok (b : RAt Z h rid dl) {i : Int} :
    Does Try.prog 20 #[.pointer (some ⟨rid, 0, none⟩), .int .i64 i] h (fun u h' => Fw (· = rid) h h' ∧ if i < 0 ∨ (dl.length : Int) ≤ i then u = .tuple #[.slice none 0 0, .bool false, .int .i64 9] ∧ h' = h else
      ∃ x w, dl[i.toNat]? = some x ∧ u = .tuple #[w, .bool x.2, .int .i64 0] ∧ Bytes (fun j => Z j ∧ j ≠ rid) h' x.1 w ∧ RAt (upZ Z h) h' rid (dl.eraseIdx i.toNat)) := by
  refine spec_go mixed Try.func20 rfl Try.results20 (n := Try.f20.ntmps) (by kernel_rfl) (by simp) ?_
  simp only [go_sem, simprocAttr]
  refine cl_spec (rhas_ok b) (fun _ _ _ hc => absurd hc (by decide +kernel)) ?_
  rintro u k ⟨rfl, rfl⟩
  by_cases h0 : i < 0 ∨ (dl.length : Int) ≤ i
  · have h0' : ¬ (0 ≤ i ∧ i < (dl.length : Int)) := by omega
    simp only [go_sem, simprocAttr, h0', if_pos h0, decide_false]
    exact .refl _ _
  · obtain ⟨n, rfl⟩ : ∃ n : Nat, i = n := ⟨i.toNat, by omega⟩
    have hn : n < dl.length := by omega
    have hn' : ((n : Int) < (dl.length : Int)) = True := eq_true (by omega)
    have h0' : ((0 : Int) ≤ n) = True := eq_true (by omega)
    have hn2 : ¬ dl.length ≤ n := by omega
    have hfew := b.2.2.1
    have e9 : IntKind.i64.wrap ((n : Int) + 1) = ((n + 1 : Nat) : Int) := by rw [wi64] <;> omega
    obtain ⟨hz, ⟨a, c, hg, hs⟩, -, hb⟩ := id b
    obtain ⟨b', off, sp, cc, md, x, lv, rfl, hz', hg', hxi, hx, hle, hdt, _, _⟩ := IsSl.atG hs hn
    have hlt := b.lt
    obtain ⟨al, cl, rfl⟩ := hx.shape
    have qb : k.quiet (k.push (.cells [.slice al x.1.length cl, .bool x.2] .rw)) := .push _ _
    have gb : (k.push (.cells [.slice al x.1.length cl, .bool x.2] .rw)).get k.next = .cells [.slice al x.1.length cl, .bool x.2] .rw := by simp
    simp only [go_sem, simprocAttr, h0', hn', hg, true_and, decide_true, hg', hle, hdt]
    generalize hkb : k.push (.cells [.slice al x.1.length cl, .bool x.2] .rw) = kb at qb gb
    have hgb := (qb.2 _ hlt).trans hg
    have hsb := (hs.bound).quiet qb
    have hkn : k.next < kb.next := AHeap.lt_of_alive kb (by rw [gb]; simp)
    obtain ⟨a1, c1, e5, s1⟩ := hsb.slice 2 rfl (l := 0) (m := n) (by omega) (by omega)
    have e5 : slI 2 (some ⟨b', off, sp⟩) dl.length c (some 0) (some (n : Int)) = some (.slice a1 n c1) := e5
    have s1 : IsSl rGr (fun j => (Z j ∧ j ≠ rid) ∧ j < k.next) kb (dl.take n) (.slice a1 n c1) := s1
    obtain ⟨css1, ec1, ha1⟩ := s1.acells 2 rfl
    have hl1 : (dl.take n).length = n := by simp; omega
    obtain ⟨v1, k1, ea1, hl1', f1, _⟩ := (Lst.nil rGr kb.next (fun j => upZ Z k j ∧ j ≠ rid) kb).app (ys := dl.take n) (css' := css1) 2 rfl (bytes := 32) (n := n) (ha1.moves fun j hj hl => ⟨⟨⟨.inl hj.1.1, hj.1.2⟩, by simp⟩, rfl⟩) hl1 (by simp; omega) (by simp; omega) (Nat.le_refl _)
    have q1 : kb.quiet k1 := f1.quiet (fun j _ e => by cases e)
    obtain ⟨a2, c2, e6, s2⟩ := (hsb.quiet q1).slice 2 rfl (l := n + 1) (m := dl.length) (by omega) (by omega)
    have s2 : IsSl rGr (fun j => (Z j ∧ j ≠ rid) ∧ j < k.next) k1 (dl.drop (n + 1)) (.slice a2 (dl.length - (n + 1)) c2) := by
      rwa [List.take_of_length_le (by simp)] at s2
    obtain ⟨css2, ec2, ha2⟩ := s2.acells 2 rfl
    obtain ⟨v2, k2, ea2, hl2, f2, _⟩ := hl1'.app (ys := dl.drop (n + 1)) (css' := css2) 2 rfl (bytes := 32) (n := dl.length - (n + 1)) (ha2.moves fun j hj hl => ⟨⟨⟨.inl hj.1.1, hj.1.2⟩, fun e => by have := (hl1'.blk_ge e).1; omega⟩, rfl⟩) (by simp) (by simp; omega) (by simp; omega) (by have := q1.1; omega)
    have q2 : k.quiet k2 := Fw.behind (qb.trans q1) f2 (fun j hj => by have := (hl1'.blk_ge hj).1; omega)
    have er : dl.take n ++ dl.drop (n + 1) = dl.eraseIdx n := (List.eraseIdx_eq_take_drop_succ dl n).symm
    simp only [List.nil_append] at hl2
    rw [er] at hl2
    have hl2 := hl2.mono (lo' := k.next) (by omega) (Nat.le_refl _) (fun j hj _ _ => ⟨hj, rfl⟩) (fun _ _ _ => rfl)
    obtain ⟨_, g2, g2', ⟨p1, p2, p3, rfl⟩, ⟨p4, p5, rfl⟩, bb, ff⟩ := b.done q2 hl2 (by rw [List.length_eraseIdx_of_lt hn]; omega) (fun y hy => hb y (List.mem_of_mem_eraseIdx hy))
    have hlt2 := AHeap.lt_of_alive k2 (i := rid) (by rw [g2]; simp)
    have hg1 := (q1.2 _ (Nat.lt_of_lt_of_le hlt qb.1)).trans hgb
    have gb2 : k2.get k.next = .cells [.slice al x.1.length cl, .bool x.2] .rw := by
      rw [f2.2 _ (Nat.lt_of_lt_of_le hkn q1.1) (fun e => ?_), q1.2 _ hkn, gb]
      have := (hl1'.blk_ge e).1
      omega
    have gb3 : ∀ o, (k2.set rid o).get k.next = .cells [.slice al x.1.length cl, .bool x.2] .rw := fun o => by rw [AHeap.get_set_ne _ _ (by omega)]; exact gb2
    simp only [go_sem, simprocAttr, hgb, e9, e5, ec1, ha1.ones, ea1, hg1, e6, ec2, ha2.ones, ea2, g2, gb3, if_neg h0, if_neg hn2]
    exact ⟨ff, x, _, hxi, rfl, hx.mono fun j hj hl => ⟨hj, by rw [AHeap.get_set_ne _ _ (Ne.symm hj.2), q2.2 j hl]⟩, bb⟩
theorem rbTurn_ok (b : RAt Z h rid dl) {i y : Int} {by_ : Nat} (hby : by_ ≤ 255) :
    Does Try.prog 22 #[.pointer (some ⟨rid, 0, none⟩), .int .i64 i, .int .i64 y, .int .u8 (by_ : Nat)] h (fun u h' => Fw (· = rid) h h' ∧ if i < 0 ∨ (dl.length : Int) ≤ i then u = .int .i64 9 ∧ h' = h else ∃ x, dl[i.toNat]? = some x ∧
      if x.2 = true then u = .int .i64 10 ∧ h' = h else if x.1.length = 0 ∨ by_ = 0 then u = .int .i64 1 ∧ h' = h else u = .int .i64 0 ∧ RAt (upZ Z h) h' rid (dl.set i.toNat (x.1.set (tAt y x.1.length) ((x.1[tAt y x.1.length]?.getD 0) ^^^ by_), true))) := by
  refine spec_go mixed Try.func22 rfl Try.results22 (n := Try.f22.ntmps) (by kernel_rfl) (by simp) ?_
  simp only [go_sem, simprocAttr]
  refine cl_spec (rhas_ok b) (fun _ _ _ hc => absurd hc (by decide +kernel)) ?_
  rintro u k ⟨rfl, rfl⟩
  by_cases h0 : i < 0 ∨ (dl.length : Int) ≤ i
  · have h0' : ¬ (0 ≤ i ∧ i < (dl.length : Int)) := by omega
    simp only [go_sem, simprocAttr, h0', if_pos h0, decide_false]
    exact .refl _ _
  · obtain ⟨n, rfl⟩ : ∃ n : Nat, i = n := ⟨i.toNat, by omega⟩
    have hn : n < dl.length := by omega
    have hn' : ((n : Int) < (dl.length : Int)) = True := eq_true (by omega)
    have h0' : ((0 : Int) ≤ n) = True := eq_true (by omega)
    have hn2 : ¬ dl.length ≤ n := by omega
    have hfew := b.2.2.1
    obtain ⟨hz, ⟨a, c, hg, hs⟩, -, hb⟩ := id b
    obtain ⟨b', off, sp, cc, md, x, lv, rfl, hz', hg', hxi, hx, hle, hdt, hc0, hc1⟩ := IsSl.atG hs hn
    have hlt := b.lt
    have hxi' : dl[(n : Int).toNat]? = some x := hxi
    obtain ⟨al, cl, rfl⟩ := hx.shape
    have hxl := hb x (List.mem_of_getElem? hxi)
    simp only [go_sem, simprocAttr, h0', hn', hg, true_and, decide_true, hg', hle, hc1, hc0, if_neg h0, if_neg hn2]
    cases hsp : x.2 with
    | true =>
      rw [cnd_true]
      simp only [go_sem, simprocAttr]
      exact ⟨.refl _ _, x, hxi, by rw [if_pos hsp]; trivial⟩
    | false =>
      have hsp' : ¬ x.2 = true := by rw [hsp]; simp
      simp only [go_sem, simprocAttr, hg, hn', hg', hle, hc0, hc1]
      by_cases hz0 : x.1.length = 0
      · have hz1 : ((x.1.length : Nat) : Int) = 0 := by omega
        simp only [go_sem, simprocAttr, hz1, decide_true]
        exact ⟨.refl _ _, x, hxi, by rw [if_neg hsp', if_pos (.inl hz0)]; trivial⟩
      · have hz1 : ¬ ((x.1.length : Nat) : Int) = 0 := by omega
        by_cases hy0 : by_ = 0
        · subst hy0
          simp only [go_sem, simprocAttr, hz1, decide_true, decide_false]
          exact ⟨.refl _ _, x, hxi, by rw [if_neg hsp']; trivial⟩
        · have hy1 : ¬ ((by_ : Nat) : Int) = 0 := by omega
          obtain ⟨t1, t2, t3⟩ := tAt_eq (y := y) (n := x.1.length) (by omega) (by omega)
          have t1' : ((tAt y x.1.length : Nat) : Int) < x.1.length := by omega
          generalize htt : tAt y x.1.length = tt at t1 t1' t3
          obtain ⟨v1, k1, e1, q1, hl1⟩ := copyB (k := k) (fun n hn => hx.vals rfl n hn) hxl
          obtain ⟨au, cu, rfl, _⟩ := hl1.len
          obtain ⟨ob, c1, xb, rfl, hob, hob2, hgo, hcx, hcl, hxb, hx8, hset⟩ := hl1.setN t1
          rw [u8_max] at hx8
          obtain ⟨x1, x2⟩ := xor8 (a := xb) (b := by_) (by omega) hby
          have hl2 := hset (xb ^^^ by_) (by rw [u8_max]; omega)
          have q2 : k.quiet (k1.set ob (.cells (c1.set tt (.int .u8 ((xb ^^^ by_ : Nat) : Int))) (.tail 1))) := q1.set' hob _
          have hcl2 : tt + 1 ≤ c1.length := by omega
          generalize hk2 : k1.set ob (.cells (c1.set tt (.int .u8 ((xb ^^^ by_ : Nat) : Int))) (.tail 1)) = k2 at hl2 q2
          have b2 : RAt (upZ Z k) k2 rid dl := (b.quiet q2).mono (fun j hj _ => ⟨.inl hj, rfl⟩)
          obtain ⟨a3, c3, css, v0, k3, hg3, hs3, e3, ho3, e0, q3, hl3⟩ := b2.copy
          obtain ⟨a4, c4, rfl, _⟩ := hl3.len
          obtain ⟨o2, css4, cs4, x4, rfl, hlo4, hg4, hln4, hcs4, hx4, hR4, _, hlen4, hput⟩ := hl3.put 2 rfl hn
          have hf4 : css4.flatten.length = dl.length * 2 := by rw [flat_length hln4, hlen4]
          have hn4 : n * 2 + 2 ≤ css4.flatten.length := by omega
          have o2lt := AHeap.lt_of_alive k3 (i := o2) (by rw [hg4]; simp)
          have hR5 : rGr.R (fun j => (upZ (upZ Z k) k2 j ∧ j ≠ rid) ∧ some o2 ≠ some j) k3 (x.1.set tt (xb ^^^ by_), true) [.slice (some ⟨ob, 0, some 1⟩) x.1.length cu, .bool true] := by
            refine rGr_iff.2 ⟨_, rfl, ?_⟩
            have h5 := ((hl2.isSl (S := (k.next ≤ ·)) (fun _ e _ => e.elim) (fun j e => e)).bound).quiet q3
            exact h5.mono fun j hj _ => ⟨⟨⟨.inl (.inr hj.1), by omega⟩, fun e => by cases e; omega⟩, rfl⟩
          have hl5 := hput _ _ hR5
          simp only [go_sem, simprocAttr, hg, hn', hg', hle, hc0, hc1, hz1, hy1, decide_false, hx.acellsN, e1, t2, t3, t1', hgo, hcx, hcl2]
          conv in (occs := *) (IntKind.u8.wrap _) => all_goals change IntKind.u8.wrap (((BitVec.ofInt 8 (xb : Int) ^^^ BitVec.ofInt 8 (by_ : Int)).toNat : Nat) : Int)
          rw [x1]
          rw [← flat_put hln4 (by omega) rfl] at hl5
          simp only [putCells] at hl5
          have q4 : k2.quiet (k3.set o2 (.cells ((css4.flatten.set (n * 2) (.slice (some ⟨ob, 0, some 1⟩) x.1.length cu)).set (n * 2 + 1) (.bool true)) (.tail 2))) := q3.set' hlo4 _
          obtain ⟨_, g2, g2', ⟨p1, p2, p3, rfl⟩, _, bb, ff⟩ := b2.done q4 hl5 (by simp; omega) (fun y hy => by
            rcases List.mem_or_eq_of_mem_set hy with hy | rfl
            · exact hb y hy
            · simpa using hxl)
          have hlt2 := AHeap.lt_of_alive _ (i := rid) (by rw [g2]; simp)
          simp only [go_sem, simprocAttr, hk2, hg3, e3, ho3, e0, hg4, hn4, hn, g2]
          refine ⟨Fw.after q2 ff, x, hxi, ?_⟩
          rw [if_neg hsp', if_neg (by omega), htt, hxb]
          exact bb.mono fun j hj _ => ⟨upZ_upZ q2.1 hj, rfl⟩
end
end Go.Proofs.Ytclfemiiibgfdaa
