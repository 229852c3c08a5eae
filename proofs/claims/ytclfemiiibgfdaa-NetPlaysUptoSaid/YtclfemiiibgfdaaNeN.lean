/- net: what is taken was put. -/
import Derived.Test.YtclfemiiibgfdaaNeM
set_option linter.unusedSimpArgs false
set_option linter.unusedVariables false
set_option linter.unnecessarySimpa false
set_option maxRecDepth 100000
namespace Go.Proofs.Ytclfemiiibgfdaa
open Go.AM

def rNAct : Rep NAct := (Rep.pair rB (.pair rI (.pair rI (.pair rB rB.list.list)))).via fun a => (a.kd, a.i, a.at_, a.by_, a.b)
theorem rNAct_iff {S : Nat → Prop} {h : AHeap} {a : NAct} {cs : List Value} : rNAct.R S h a cs ↔ ∃ v, cs = a.cs v ∧ ((a.kd : Int) ≤ IntKind.u8.max ∧ inI64 a.i ∧ inI64 a.at_ ∧ (a.by_ : Int) ≤ IntKind.u8.max) ∧ IsSl rB.list S h a.b v := by
  constructor
  · rintro ⟨c1, c2, rfl, ⟨rfl, h1⟩, c3, c4, rfl, ⟨rfl, h2⟩, c5, c6, rfl, ⟨rfl, h3⟩, c7, c8, rfl, ⟨rfl, h4⟩, v, rfl, hv⟩
    exact ⟨v, rfl, ⟨h1, h2, h3, h4⟩, hv⟩
  · rintro ⟨v, rfl, ⟨h1, h2, h3, h4⟩, hv⟩
    exact ⟨_, _, rfl, ⟨rfl, h1⟩, _, _, rfl, ⟨rfl, h2⟩, _, _, rfl, ⟨rfl, h3⟩, _, _, rfl, ⟨rfl, h4⟩, v, rfl, hv⟩
theorem tmod4 (k : Nat) : ((k : Int).tmod 4) = ((k % 4 : Nat) : Int) := by rw [Int.tmod_eq_emod_of_nonneg (by omega)]; omega
/-- A datagram of a message that was put. -/
def okG (P : List Msg) (g : G) : Prop := ∃ m ∈ P, m.right ∧ (∀ b ∈ m.encode, b ≤ 255) ∧ g.bs.length ≤ 1400 ∧ (g.sp = false → g.bs = sealN m.encode) ∧ (g.sp = true → openN g.bs = none)
theorem okG.more {P : List Msg} {g : G} (o : okG P g) (Q : List Msg) : okG (P ++ Q) g := by
  obtain ⟨m, hm, k⟩ := o
  exact ⟨m, List.mem_append_left _ hm, k⟩
theorem okG.turn {P : List Msg} {g : G} (o : okG P g) (hs : g.sp = false) {k y : Nat} (hk : k < g.bs.length) (hy : y ≠ 0) (hy8 : y ≤ 255) : okG P (g.turn k y) := by
  obtain ⟨m, hm, hr, h8, hl, h1, h2⟩ := o
  refine ⟨m, hm, hr, h8, by unfold G.turn; simpa using hl, fun e => (by cases e), fun _ => ?_⟩
  have e := h1 hs
  unfold G.turn
  dsimp only
  rw [e] at hk ⊢
  exact turn_open h8 hk hy hy8
theorem encode_le {m : Msg} (hl : ∀ b ∈ m.load, b ≤ 255) : ∀ b ∈ m.encode, b ≤ 255 := by
  intro b hb
  rw [← Msg.fst_end] at hb
  have k8 : ∀ n, ∀ b ∈ leB 8 n, b ≤ 255 := fun n b hb => by have := leB_lt 8 n b hb; omega
  rcases List.mem_append.1 hb with hb | hb
  · obtain ⟨n, _, hn⟩ := List.mem_flatMap.1 hb
    exact k8 n b hn
  · obtain ⟨n, hn, hb⟩ := List.mem_flatMap.1 hb
    rcases List.mem_append.1 hb with hb | hb
    · exact k8 _ b hb
    · obtain rfl : n = m.load := by simpa using hn
      exact hl b hb
theorem encode_len {m : Msg} (hr : m.right) : (sealN m.encode).length ≤ 1400 := by
  rw [sealN_len, ← Msg.fst_end, List.length_append, Msg.fst_len (Nat.le_refl _), partsB_length]
  have := (m.right_iff.1 hr).2
  simp; omega
section
variable {h : AHeap} {Z S : Nat → Prop} {v w : Value} {id : Nat} {gl : List G}
theorem IsSl.atM {S : Nat → Prop} {h : AHeap} {xs : List Msg} {a : Option Addr} {n cap : Nat} (hs : IsSl rMsg S h xs (.slice a n cap)) {i : Nat} (hi : i < n) :
    ∃ b off sp c md x lv, a = some ⟨b, off, sp⟩ ∧ S b ∧ h.get b = .cells c md ∧ xs[i]? = some x ∧ Bytes S h x.load lv ∧ (inI64 x.fr ∧ inI64 x.dst ∧ inI64 x.kd ∧ inI64 x.ep ∧ inI64 x.sq ∧ inI64 x.ak) ∧ off + i * 7 + 7 ≤ c.length ∧ (c.drop (off + i * 7)).take 7 = x.cs lv := by
  obtain ⟨b, off, sp, c, md, cs, x, h1, h2, h3, h4, h5, h6, h7⟩ := hs.at 7 rfl hi
  obtain ⟨lv, rfl, h8, h9⟩ := rMsg_iff.1 h5
  exact ⟨b, off, sp, c, md, x, lv, h1, h2, h3, h4, h9, h8, h6, h7⟩
theorem IsSl.atA {S : Nat → Prop} {h : AHeap} {xs : List NAct} {a : Option Addr} {n cap : Nat} (hs : IsSl rNAct S h xs (.slice a n cap)) {i : Nat} (hi : i < n) :
    ∃ b off sp c md x lv, a = some ⟨b, off, sp⟩ ∧ S b ∧ h.get b = .cells c md ∧ xs[i]? = some x ∧ IsSl rB.list S h x.b lv ∧ ((x.kd : Int) ≤ IntKind.u8.max ∧ inI64 x.i ∧ inI64 x.at_ ∧ (x.by_ : Int) ≤ IntKind.u8.max) ∧ off + i * 5 + 5 ≤ c.length ∧ (c.drop (off + i * 5)).take 5 = x.cs lv := by
  obtain ⟨b, off, sp, c, md, cs, x, h1, h2, h3, h4, h5, h6, h7⟩ := hs.at 5 rfl hi
  obtain ⟨lv, rfl, h8, h9⟩ := rNAct_iff.1 h5
  exact ⟨b, off, sp, c, md, x, lv, h1, h2, h3, h4, h9, h8, h6, h7⟩
/-- The bag beside the messages that were put. -/
def TkAt (h : AHeap) (k : AHeap) (id : Nat) (P Q : List Msg) (pv : Value) : Prop :=
  h.quiet k ∧ P.length ≤ 1048576 ∧ ∃ (Z : Nat → Prop) (gl : List G), BagAt Z k id gl ∧ (∀ j, Z j → h.next ≤ j ∧ j < k.next) ∧ (∀ g ∈ gl, okG Q g) ∧ Lst rMsg h.next (· < h.next) k P pv ∧ ∀ j, blk pv = some j → ¬ Z j
theorem TkAt.quiet {k k' : AHeap} {P Q : List Msg} {pv : Value} (t : TkAt h k id P Q pv) (q : k.quiet k') : TkAt h k' id P Q pv := by
  obtain ⟨h1, h2, Z, gl, b, hz, hg, hl, hb⟩ := t
  exact ⟨h1.trans q, h2, Z, gl, b.quiet q, fun j hj => ⟨(hz j hj).1, Nat.lt_of_lt_of_le (hz j hj).2 q.1⟩, hg, hl.quiet q, hb⟩
/-- Behind a call of the bag's. -/
theorem TkAt.step {k k' : AHeap} {P Q : List Msg} {pv : Value} {Z : Nat → Prop} {gl : List G} (h1 : h.quiet k) (h2 : P.length ≤ 1048576) (hz : ∀ j, Z j → h.next ≤ j ∧ j < k.next) (hl : Lst rMsg h.next (· < h.next) k P pv) (hb : ∀ j, blk pv = some j → ¬ Z j)
    (f : Fw Z k k') (b : BagAt (upZ Z k) k' id gl) (hg : ∀ g ∈ gl, okG Q g) : TkAt h k' id P Q pv := by
  refine ⟨Fw.behind h1 f (fun j hj => (hz j hj).1), h2, fun j => upZ Z k j ∧ j < k'.next, gl, b.bound, fun j hj => ⟨?_, hj.2⟩, hg, hl.mono (Nat.le_refl _) f.1 (fun j hj hlt _ => ⟨hj, f.2 j hlt (fun e => by have := (hz j e).1; omega)⟩) (fun j hj hlt => f.2 j hlt (hb j hj)), fun j hj e => ?_⟩
  · rcases hj.1 with hj | hj
    · exact (hz j hj).1
    · exact Nat.le_trans h1.1 hj
  · rcases e.1 with e | e
    · exact hb j hj e
    · have := (hl.blk_ge hj).2; omega
/-- One more message. -/
theorem TkAt.put {k : AHeap} {P Q : List Msg} {pv mv : Value} {m : Msg} (t : TkAt h k id P Q pv) (hn : P.length < 1048576) (hm : Bytes (· < h.next) k m.load mv) (hi : inI64 m.fr ∧ inI64 m.dst ∧ inI64 m.kd ∧ inI64 m.ep ∧ inI64 m.sq ∧ inI64 m.ak) :
    ∃ pv' k', aappend k 7 72 pv 1 (m.cs mv) = some (pv', k') ∧ TkAt h k' id (P ++ [m]) Q pv' ∧ ∃ a n c, pv' = .slice a n c := by
  obtain ⟨h1, h2, Z, gl, b, hz, hg, hl, hb⟩ := t
  obtain ⟨pv', k', e, hl', f, hn'⟩ := hl.app1 (y := m) (cs := m.cs mv) (bytes := 72) 7 rfl (rMsg_iff.2 ⟨mv, rfl, hi, hm.weaken fun j hj => ⟨hj, fun e => by have := (hl.blk_ge e).1; omega⟩⟩) (by omega) (by omega) h1.1
  refine ⟨pv', k', e, ⟨Fw.behind h1 f (fun j hj => (hl.blk_ge hj).1), by simp; omega, Z, gl, b.mono fun j hj hlt => ⟨hj, f.2 j hlt (fun e => hb j e hj)⟩, fun j hj => ⟨(hz j hj).1, Nat.lt_of_lt_of_le (hz j hj).2 f.1⟩, hg, hl', fun j hj e => ?_⟩, ?_⟩
  · rcases hn' with hn' | ⟨ob, hn', hge⟩
    · rw [hn'] at hj; exact hb j hj e
    · rw [hn'] at hj; cases hj
      have := (hz _ e).2; omega
  · obtain ⟨a, c, e, _⟩ := hl'.len
    exact ⟨a, _, c, e⟩
theorem tkTwice {k : AHeap} {P : List Msg} {pv : Value} (t : TkAt h k id P P pv) {i : Int} : Does Try.prog 16 #[.pointer (some ⟨id, 0, none⟩), .int .i64 i] k (fun u k' => TkAt h k' id P P pv) := by
  have tt := t
  obtain ⟨tq, tP, Z, gl, bg, hz, hgl, hPl, hPb⟩ := t
  refine (bTwice_ok bg (i := i) (fun g hg => by obtain ⟨m, _, _, _, hl, _⟩ := hgl g hg; omega)).mono fun u k' hp => ?_
  obtain ⟨f, hp⟩ := hp
  split at hp
  · rw [hp.2]; exact tt
  · split at hp
    · rw [hp.2]; exact tt
    · obtain ⟨_, g, hg, x, b⟩ := hp
      refine TkAt.step tq tP hz hPl hPb f b (fun g' hg' => ?_)
      rcases List.mem_append.1 hg' with hg' | hg'
      · exact hgl g' hg'
      · obtain rfl : g' = ⟨x, g.bs, g.sp⟩ := by simpa using hg'
        exact hgl g (List.mem_of_getElem? hg)
theorem tkTurn {k : AHeap} {P : List Msg} {pv : Value} (t : TkAt h k id P P pv) {i y : Int} {by_ : Nat} (h8 : by_ ≤ 255) : Does Try.prog 17 #[.pointer (some ⟨id, 0, none⟩), .int .i64 i, .int .i64 y, .int .u8 (by_ : Nat)] k (fun u k' => TkAt h k' id P P pv) := by
  have tt := t
  obtain ⟨tq, tP, Z, gl, bg, hz, hgl, hPl, hPb⟩ := t
  refine (bTurn_ok bg (i := i) (y := y) h8).mono fun u k' hp => ?_
  obtain ⟨f, hp⟩ := hp
  split at hp
  · rw [hp.2]; exact tt
  · obtain ⟨g, hg, hp⟩ := hp
    split at hp
    · rw [hp.2]; exact tt
    · rename_i hs
      split at hp
      · rw [hp.2]; exact tt
      · rename_i hc
        obtain ⟨_, ht, b⟩ := hp
        refine TkAt.step tq tP hz hPl hPb f (b.mono fun j hj _ => ⟨.inl hj, rfl⟩) (fun g' hg' => ?_)
        rcases List.mem_or_eq_of_mem_set hg' with hg' | rfl
        · exact hgl g' hg'
        · exact (hgl g (List.mem_of_getElem? hg)).turn (by simpa using hs) ht (fun e => hc (.inr e)) h8
theorem tkTake {k : AHeap} {P : List Msg} {pv : Value} (t : TkAt h k id P P pv) {i : Int} : Does Try.prog 18 #[.pointer (some ⟨id, 0, none⟩), .int .i64 i] k (fun u k' => TkAt h k' id P P pv ∧ (u = .tuple #[.slice none 0 0, .bool false, .int .i64 9] ∨ ∃ g, okG P g ∧ u = .tuple #[g.v, .bool g.sp, .int .i64 0] ∧ GB (fun _ => True) k' g.bs g.v)) := by
  have tt := t
  obtain ⟨tq, tP, Z, gl, bg, hz, hgl, hPl, hPb⟩ := t
  refine (bTake_ok bg (i := i)).mono fun u k' hp => ?_
  obtain ⟨f, hp⟩ := hp
  split at hp
  · rw [hp.2]; exact ⟨tt, .inl hp.1⟩
  · obtain ⟨g, hg, rfl, b, hG⟩ := hp
    refine ⟨TkAt.step tq tP hz hPl hPb f (b.mono fun j hj _ => ⟨.inl hj.1, rfl⟩) (fun g' hg' => hgl g' (List.mem_of_mem_eraseIdx hg')), .inr ⟨g, hgl g (List.mem_of_getElem? hg), rfl, hG.mono fun _ _ _ _ => ⟨trivial, rfl⟩⟩⟩
theorem taken_law {l : List Msg} {acts : List NAct} (hl : IsSl rMsg (· < h.next) h l v) (hs : IsSl rNAct (· < h.next) h acts w) (hn : l.length ≤ 1048576) : Does Try.prog 5 #[v, w] h (fun u _ => u = .bool true) := by
  obtain ⟨a1, c1, rfl⟩ := hl.shape
  obtain ⟨a2, c2, rfl⟩ := hs.shape
  have hll := hl.len
  have hsl := hs.len
  refine spec_go mixed Try.func5 rfl Try.results5 (n := Try.f5.ntmps) (by kernel_rfl) (by simp) ?_
  simp only [go_sem, simprocAttr]
  refine cl_spec new_bag (fun u h' hp _ => hp.2.1) ?_
  rintro u k0 ⟨rfl, q0, b0⟩
  simp only [go_sem, simprocAttr]
  refine cl_spec alive_ok (fun u h' hp _ => hp.2) ?_
  rintro u k1 ⟨rfl, q1⟩
  have t0 : TkAt h k1 h.next [] [] (.slice none 0 0) := ⟨q0.trans q1, by simp, fun j => h.next ≤ j ∧ j < k0.next, [], (b0.bound).quiet q1, fun j hj => ⟨hj.1, Nat.lt_of_lt_of_le hj.2 q1.1⟩, by simp, .nil _ _ _ _, fun j e => by cases e⟩
  simp only [go_sem, simprocAttr]
  clear b0
  refine go_cutb (fun ρ k => ∃ P pv, TkAt h k h.next P P pv ∧ ρ 1 = .slice a2 acts.length c2 ∧ ρ 5 = .pointer (some ⟨h.next, 0, none⟩) ∧ ρ 6 = pv) ?_ ?_
  · refine go_loop (fun z ρ k => ∃ (i : Nat) (P : List Msg) (pv : Value), i ≤ l.length ∧ z = l.length - i ∧ P.length ≤ i ∧ TkAt h k h.next P P pv ∧ ρ 1 = .slice a2 acts.length c2 ∧ ρ 5 = .pointer (some ⟨h.next, 0, none⟩) ∧ ρ 6 = pv ∧ ρ 28 = .slice a1 l.length c1 ∧ ρ 29 = .int .i64 l.length ∧ ρ 30 = .int .i64 i) l.length ⟨0, [], _, by omega, by omega, by simp, t0, by simp only [go_sem, simprocAttr]⟩ ?_
    rintro z ρ k ⟨i, P, pv, hi, rfl, hP, t, r1, r5, r6, r28, r29, r30⟩
    simp only [go_sem, simprocAttr, r1, r5, r6, r28, r29, r30]
    refine cnd_decide (fun hy => ?_) (fun hy => ?_)
    · have h1 : i < l.length := by omega
      obtain ⟨b, off, sp, cc, md, m, mv, hA, _, hg, hxi, hmv, hmi, hle, hdt⟩ := IsSl.atM (hl.quiet t.1) h1
      obtain ⟨am, cm, rfl⟩ := hmv.shape
      simp only [go_sem, simprocAttr, r1, r5, r6, r28, r29, r30, hy, hA, hg, hle, hdt, cs_len, cs_one, cs_take, cs_put]
      have qb : k.quiet (k.push (.cells (m.cs (.slice am m.load.length cm)) .rw)) := .push _ _
      have gb : (k.push (.cells (m.cs (.slice am m.load.length cm)) .rw)).get k.next = .cells (m.cs (.slice am m.load.length cm)) .rw := by simp
      have e9 : IntKind.i64.wrap ((i : Int) + 1) = ((i + 1 : Nat) : Int) := by rw [wi64] <;> omega
      have hmv1 := hmv.quiet qb
      generalize k.push (.cells (m.cs (.slice am m.load.length cm)) .rw) = kb at qb gb hmv1
      clear hg hdt
      have tt := t
      obtain ⟨tq, tP, Z, gl, bg, hz, hgl, hPl, hPb⟩ := t
      have nb := qb.1
      refine cl_spec (Pack_ok hmv1) (fun u h' hp _ => hp.1) ?_
      rintro u k2 ⟨q2, hp⟩
      have gb2 := (q2.2 _ (AHeap.lt_of_alive kb (by rw [gb]; simp))).trans gb
      by_cases hr : m.right
      · rw [show packN m = some (sealN m.encode) from if_pos hr] at hp
        obtain ⟨x, rfl, hx⟩ := hp
        obtain ⟨ax, cx, rfl⟩ := hx.shape
        simp only [go_sem, simprocAttr, r1, r5, r6, r28, r29, r30]
        have qp : k2.quiet (k2.push (.cells [.slice ax (sealN m.encode).length cx] .rw)) := .push _ _
        have hfew := bg.few
        have hlen := encode_len hr
        have qq := (qb.trans q2).trans qp
        refine cl_spec (bPut_ok (bg.quiet qq) (one' hx.bound) (fun j hj hzj => by have := (hz j hzj).2; have := q2.1; rcases hj with ⟨hj, _⟩ | hj <;> omega) (fun y hy => by simp at hy; subst hy; omega)) (fun _ _ _ hc => absurd hc (by decide +kernel)) ?_
        rintro u k3 ⟨rfl, ⟨gl1, b3, hg1⟩, f3⟩
        have gp := (qp.2 _ (AHeap.lt_of_alive k2 (by rw [gb2]; simp))).trans gb2
        have gb3 := (f3.2 _ (AHeap.lt_of_alive _ (by rw [gp]; simp)) (fun e => by have := (hz _ e).2; omega)).trans gp
        have hz' : ∀ j, Z j → h.next ≤ j ∧ j < (k2.push (.cells [.slice ax (sealN m.encode).length cx] .rw)).next := fun j e => ⟨(hz j e).1, Nat.lt_of_lt_of_le (hz j e).2 qq.1⟩
        have hPl' := hPl.quiet qq
        by_cases hful : gl.length < 256
        · have hone : ((min 1 (256 - gl.length) : Nat) : Int) = 1 := by omega
          obtain ⟨g1, rfl, hb1, hs1⟩ : ∃ g1, gl1 = [g1] ∧ g1.bs = sealN m.encode ∧ g1.sp = false := by
            have e : gl1.map (fun g => (g.bs, g.sp)) = [(sealN m.encode, false)] := by rw [hg1, List.take_of_length_le (by simp; omega)]; rfl
            cases gl1 with
            | nil => cases e
            | cons g gl =>
              cases gl with
              | nil => simp only [List.map_cons, List.map_nil, List.cons.injEq, Prod.mk.injEq, and_true] at e; exact ⟨g, rfl, e.1, e.2⟩
              | cons g' gl => simp at e
          have hload : ∀ b ∈ m.load, b ≤ 255 := fun b hb => by have := hmv.vals rfl b hb; rw [u8_max] at this; omega
          have t3 := TkAt.step (P := P) (Q := P ++ [m]) (tq.trans qq) tP hz' hPl' hPb f3 b3 (fun g hg => by
            rcases List.mem_append.1 hg with hg | hg
            · exact (hgl g hg).more [m]
            · obtain rfl : g = g1 := by simpa using hg
              exact ⟨m, by simp, hr, encode_le hload, by rw [hb1]; exact hlen, fun _ => hb1, fun e => by rw [hs1] at e; cases e⟩)
          obtain ⟨pv', k4, e4, t4, ⟨p1, p2, p3, rfl⟩⟩ := (t3.quiet (.push _ (.cells (m.cs (.slice am m.load.length cm)) .rw))).put (m := m) (mv := .slice am m.load.length cm) (by omega) (hmv.mono fun j hj hl => ⟨hj, by rw [AHeap.get_push_ne _ _ (by have := t3.1.1; omega), f3.2 j (Nat.lt_of_lt_of_le hl qq.1) (fun e => by have := (hz j e).1; omega), qq.2 j hl]⟩) hmi
          obtain ⟨q1', q2', q3', rfl⟩ : ∃ a n c, pv = .slice a n c := by obtain ⟨a, c, e, _⟩ := hPl.len; exact ⟨a, _, c, e⟩
          simp only [go_sem, simprocAttr, r1, r5, r6, r28, r29, r30, hone, eq_self, decide_true, gb3, cs_len, cs_one, cs_take, cs_put, e4, e9]
          exact Hold.mk ⟨l.length - (i + 1), by omega, i + 1, P ++ [m], _, by omega, rfl, by simp; omega, t4, by simp only [go_sem, simprocAttr, r1, r5, r6, r28, r29, hA]⟩
        · have hzero : ¬ ((min 1 (256 - gl.length) : Nat) : Int) = 1 := by omega
          obtain rfl : gl1 = [] := by
            have := congrArg List.length hg1
            simp at this
            exact List.eq_nil_of_length_eq_zero (by omega)
          have t3 := TkAt.step (P := P) (Q := P) (tq.trans qq) tP hz' hPl' hPb f3 b3 (fun g hg => hgl g (by simpa using hg))
          simp only [go_sem, simprocAttr, r1, r5, r6, r28, r29, r30, hzero, decide_false, e9]
          exact Hold.mk ⟨l.length - (i + 1), by omega, i + 1, P, pv, by omega, rfl, by omega, t3, by simp only [go_sem, simprocAttr, r1, r5, r6, r28, r29, hA]⟩
      · rw [show packN m = none from if_neg hr] at hp
        obtain rfl := hp
        simp only [go_sem, simprocAttr, r1, r5, r6, r28, r29, r30, e9]
        exact Hold.mk ⟨l.length - (i + 1), by omega, i + 1, P, pv, by omega, rfl, by omega, tt.quiet (qb.trans q2), by simp only [go_sem, simprocAttr, r1, r5, r6, r28, r29, hA]⟩
    · simp only [go_sem, simprocAttr, r1, r5, r6]
      exact Hold.mk ⟨P, pv, t, r1, r5, r6⟩
  · rintro ρ k ⟨P, pv, t, r1, r5, r6⟩
    simp only [go_sem, simprocAttr, r1, r5, r6]
    refine go_loop (fun z ρ k => ∃ (i : Nat), i ≤ acts.length ∧ z = acts.length - i ∧ TkAt h k h.next P P pv ∧ ρ 5 = .pointer (some ⟨h.next, 0, none⟩) ∧ ρ 6 = pv ∧ ρ 53 = .slice a2 acts.length c2 ∧ ρ 54 = .int .i64 acts.length ∧ ρ 55 = .int .i64 i) acts.length ⟨0, by omega, by omega, t, by simp only [go_sem, simprocAttr, r5, r6]⟩ ?_
    rintro z ρ k ⟨i, hi, rfl, t, r5, r6, r53, r54, r55⟩
    simp only [go_sem, simprocAttr, r5, r6, r53, r54, r55]
    refine cnd_decide (fun hy => ?_) (fun hy => ?_)
    · have h1 : i < acts.length := by omega
      obtain ⟨b, off, sp, cc, md, a, lv, hA, _, hg, hxi, hlv, ⟨ha1, ha2, ha3, ha4⟩, hle, hdt⟩ := IsSl.atA (hs.quiet t.1) h1
      obtain ⟨al, cl, rfl⟩ := hlv.shape
      have ha8 : a.by_ ≤ 255 := by rw [u8_max] at ha4; omega
      have e9 : IntKind.i64.wrap ((i : Int) + 1) = ((i + 1 : Nat) : Int) := by rw [wi64] <;> omega
      simp only [NAct.cs] at hdt
      simp only [go_sem, simprocAttr, r5, r6, r53, r54, r55, hy, hA, hg, hle, hdt, tmod4]
      have qb : k.quiet (k.push (.cells (a.cs (.slice al a.b.length cl)) .rw)) := .push _ _
      have gb : (k.push (.cells (a.cs (.slice al a.b.length cl)) .rw)).get k.next = .cells [.int .u8 (a.kd : Nat), .int .i64 a.i, .int .i64 a.at_, .int .u8 (a.by_ : Nat), .slice al a.b.length cl] .rw := by simp [NAct.cs]
      have tb := t.quiet qb
      simp only [NAct.cs] at qb gb tb
      generalize k.push (.cells [.int .u8 (a.kd : Nat), .int .i64 a.i, .int .i64 a.at_, .int .u8 (a.by_ : Nat), .slice al a.b.length cl] .rw) = kb at qb gb tb
      by_cases hk0 : ((a.kd % 4 : Nat) : Int) = 0
      · simp only [go_sem, simprocAttr, r5, r6, r53, r54, r55, hk0, eq_self, decide_true, e9]
        exact Hold.mk ⟨acts.length - (i + 1), by omega, i + 1, by omega, rfl, tb, by simp only [go_sem, simprocAttr, r5, r6, r53, r54, hA]⟩
      · by_cases hk2 : ((a.kd % 4 : Nat) : Int) = 2
        · simp only [go_sem, simprocAttr, r5, r6, r53, r54, r55, hk0, hk2, eq_self, decide_true, decide_false, gb]
          refine cl_spec (tkTwice tb) (fun _ _ _ hc => absurd hc (by decide +kernel)) ?_
          intro u k2 t2
          simp only [go_sem, simprocAttr, r5, r6, r53, r54, r55, e9]
          exact Hold.mk ⟨acts.length - (i + 1), by omega, i + 1, by omega, rfl, t2, by simp only [go_sem, simprocAttr, r5, r6, r53, r54, hA]⟩
        · by_cases hk3 : ((a.kd % 4 : Nat) : Int) = 3
          · simp only [go_sem, simprocAttr, r5, r6, r53, r54, r55, hk0, hk2, hk3, eq_self, decide_true, decide_false, gb]
            refine cl_spec (tkTurn tb ha8) (fun _ _ _ hc => absurd hc (by decide +kernel)) ?_
            intro u k2 t2
            simp only [go_sem, simprocAttr, r5, r6, r53, r54, r55, e9]
            exact Hold.mk ⟨acts.length - (i + 1), by omega, i + 1, by omega, rfl, t2, by simp only [go_sem, simprocAttr, r5, r6, r53, r54, hA]⟩
          · simp only [go_sem, simprocAttr, r5, r6, r53, r54, r55, hk0, hk2, hk3, eq_self, decide_true, decide_false, gb]
            refine cl_spec (tkTake tb) (fun _ _ _ hc => absurd hc (by decide +kernel)) ?_
            rintro u k2 ⟨t2, rfl | ⟨g, ⟨m, hm, hr, hm8, hlg, hg1, hg2⟩, rfl, hG⟩⟩
            · simp only [go_sem, simprocAttr, r5, r6, r53, r54, r55, e9]
              exact Hold.mk ⟨acts.length - (i + 1), by omega, i + 1, by omega, rfl, t2, by simp only [go_sem, simprocAttr, r5, r6, r53, r54, hA]⟩
            · obtain ⟨ag, hgv⟩ := hG.len
              have hGb := hG.isSl
              rw [hgv] at hGb
              simp only [go_sem, simprocAttr, r5, r6, r53, r54, r55, hgv]
              refine cl_spec (Unpack_ok hGb (by omega)) (fun u h' hp _ => hp.1) ?_
              rintro u k3 ⟨q3, hp3⟩
              have t3 := t2.quiet q3
              obtain ⟨M, wv, f, rfl, hMb, hf⟩ : ∃ (M : Msg) (wv : Value) (f : Int), u = .tuple #[.agg (M.cs wv).toArray, .int .i64 f] ∧ Bytes (fun _ => True) k3 M.load wv ∧ ((g.sp = true ∧ f = 4) ∨ (g.sp = false ∧ f = 0 ∧ M = m)) := by
                cases hsp : g.sp with
                | true =>
                  rw [unpackN_none (hg2 hsp)] at hp3
                  exact ⟨Msg.zero, _, 4, hp3, .nil _ _ _, .inl ⟨rfl, rfl⟩⟩
                | false =>
                  rw [hg1 hsp, unpack_pack hr] at hp3
                  obtain ⟨wv, e, hw⟩ := hp3
                  exact ⟨m, wv, 0, e, hw.weaken fun _ _ => trivial, .inr ⟨rfl, rfl, rfl⟩⟩
              obtain ⟨aw, cw, rfl⟩ := hMb.shape
              have qM : k3.quiet (k3.push (.cells (M.cs (.slice aw M.load.length cw)) .rw)) := .push _ _
              have gM : (k3.push (.cells (M.cs (.slice aw M.load.length cw)) .rw)).get k3.next = .cells (M.cs (.slice aw M.load.length cw)) .rw := by simp
              obtain ⟨ap, np, cp, rfl, hnp⟩ : ∃ a n c, pv = .slice a n c ∧ n = P.length := by
                obtain ⟨_, _, Z, gl, _, _, _, hPl, _⟩ := t3
                obtain ⟨a, c, e, _⟩ := hPl.len
                exact ⟨a, _, c, e, rfl⟩
              subst hnp
              simp only [go_sem, simprocAttr, r5, r6, r53, r54, r55, cs_len, cs_one, cs_take, cs_put]
              have tM := t3.quiet qM
              have hMb := hMb.quiet qM
              generalize k3.push (.cells (M.cs (.slice aw M.load.length cw)) .rw) = k4 at qM gM tM hMb
              have hP6 : P.length ≤ 1048576 := tM.2.1
              refine go_cutb (fun ρ k => TkAt h k h.next P P (.slice ap P.length cp) ∧ ρ 5 = .pointer (some ⟨h.next, 0, none⟩) ∧ ρ 6 = .slice ap P.length cp ∧ ρ 53 = .slice a2 acts.length c2 ∧ ρ 54 = .int .i64 acts.length ∧ ρ 55 = .int .i64 i ∧ ρ 14 = .bool g.sp ∧ ρ 17 = .int .i64 f ∧ ρ 18 = .bool (decide (M ∈ P))) ?_ ?_
              · refine go_loop (fun z ρ k => ∃ (j : Nat), j ≤ P.length ∧ z = P.length - j ∧ k4.quiet k ∧ ρ 5 = .pointer (some ⟨h.next, 0, none⟩) ∧ ρ 6 = .slice ap P.length cp ∧ ρ 53 = .slice a2 acts.length c2 ∧ ρ 54 = .int .i64 acts.length ∧ ρ 55 = .int .i64 i ∧ ρ 14 = .bool g.sp ∧ ρ 17 = .int .i64 f ∧ ρ 18 = .bool (decide (M ∈ P.take j)) ∧ ρ 16 = .pointer (some ⟨k3.next, 0, none⟩) ∧ ρ 77 = .slice ap P.length cp ∧ ρ 78 = .int .i64 P.length ∧ ρ 79 = .int .i64 j) P.length ⟨0, by omega, by omega, .refl _, by simp only [go_sem, simprocAttr, r5, r6, r53, r54, r55, hA]; simp⟩ ?_
                rintro z ρ k ⟨j, hj, rfl, q5, r5, r6, r53, r54, r55, r14, r17, r18, r16, r77, r78, r79⟩
                simp only [go_sem, simprocAttr, r5, r6, r53, r54, r55, r14, r17, r18, r16, r77, r78, r79]
                refine cnd_decide (fun hy => ?_) (fun hy => ?_)
                · have h1 : j < P.length := by omega
                  have t5 := tM.quiet q5
                  have hPs : IsSl rMsg (fun _ => True) k P (.slice ap P.length cp) := by
                    obtain ⟨_, _, Z, gl, _, _, _, hPl, _⟩ := t5
                    exact hPl.isSl (fun _ _ _ => trivial) (fun _ _ => trivial)
                  have gM5 := (q5.2 _ (AHeap.lt_of_alive k4 (by rw [gM]; simp))).trans gM
                  obtain ⟨b', off', sp', cc', md', y, yv, hA', _, hg', hyi, hyv, _, hle', hdt'⟩ := IsSl.atM hPs h1
                  obtain ⟨ay, cy, rfl⟩ := hyv.shape
                  have e9' : IntKind.i64.wrap ((j : Int) + 1) = ((j + 1 : Nat) : Int) := by rw [wi64] <;> omega
                  have htk : (M ∈ P.take (j + 1)) ↔ (M ∈ P.take j ∨ M = y) := by rw [List.take_add_one, hyi]; simp
                  have qy : k.quiet (k.push (.cells (y.cs (.slice ay y.load.length cy)) .rw)) := .push _ _
                  have gy : (k.push (.cells (y.cs (.slice ay y.load.length cy)) .rw)).get k.next = .cells (y.cs (.slice ay y.load.length cy)) .rw := by simp
                  have gMy := (qy.2 _ (AHeap.lt_of_alive k (by rw [gM5]; simp))).trans gM5
                  simp only [go_sem, simprocAttr, r5, r6, r53, r54, r55, r14, r17, r18, r16, r77, r78, r79, hy, hA', hg', hle', hdt', cs_len, cs_one, cs_take, cs_put]
                  by_cases hin : M ∈ P.take j
                  · simp only [go_sem, simprocAttr, r5, r6, r53, r54, r55, r14, r17, r18, r16, r77, r78, r79, hin, decide_true, e9']
                    exact Hold.mk ⟨P.length - (j + 1), by omega, j + 1, by omega, rfl, q5.trans qy, by simp only [go_sem, simprocAttr, r5, r6, r53, r54, r55, r14, r17, r16, r77, r78, hA', htk.2 (.inl hin), decide_true]⟩
                  · simp only [go_sem, simprocAttr, r5, r6, r53, r54, r55, r14, r17, r18, r16, r77, r78, r79, hin, decide_false, e9', gMy, cs_len, cs_one, cs_take, cs_put]
                    refine cl_spec (rSame_ok (m := M) (n := y) (S := fun _ => True) ((hMb.quiet q5).quiet qy) (hyv.quiet qy)) (fun u h' hp _ => hp.2) ?_
                    rintro u k6 ⟨rfl, q6⟩
                    have e' : (M ∈ P.take (j + 1)) = (M = y) := propext (htk.trans ⟨fun e => e.elim (fun e => absurd e hin) id, .inr⟩)
                    simp only [go_sem, simprocAttr, r5, r6, r53, r54, r55, r14, r17, r18, r16, r77, r78, r79, e9']
                    exact Hold.mk ⟨P.length - (j + 1), by omega, j + 1, by omega, rfl, (q5.trans qy).trans q6, by simp only [go_sem, simprocAttr, r5, r6, r53, r54, r55, r14, r17, r16, r77, r78, hA', e']⟩
                · have : j = P.length := by omega
                  subst this
                  rw [List.take_length] at r18
                  simp only [go_sem, simprocAttr, r5, r6, r53, r54, r55, r14, r17, r18]
                  exact Hold.mk ⟨tM.quiet q5, r5, r6, r53, r54, r55, r14, r17, r18⟩
              · rintro ρ k ⟨t6, r5, r6, r53, r54, r55, r14, r17, r18⟩
                rcases hf with ⟨hsp, rfl⟩ | ⟨hsp, rfl, rfl⟩
                · simp only [go_sem, simprocAttr, r5, r6, r53, r54, r55, r14, r17, r18, hsp, e9]
                  exact Hold.mk ⟨acts.length - (i + 1), by omega, i + 1, by omega, rfl, t6, by simp only [go_sem, simprocAttr, r5, r6, r53, r54, hA]⟩
                · simp only [go_sem, simprocAttr, r5, r6, r53, r54, r55, r14, r17, r18, hsp, hm, decide_true, e9]
                  exact Hold.mk ⟨acts.length - (i + 1), by omega, i + 1, by omega, rfl, t6, by simp only [go_sem, simprocAttr, r5, r6, r53, r54, hA]⟩
    · simp only [go_sem, simprocAttr]
end
end Go.Proofs.Ytclfemiiibgfdaa
