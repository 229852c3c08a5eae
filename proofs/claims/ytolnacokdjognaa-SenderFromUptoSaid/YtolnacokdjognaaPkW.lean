/- pack's Writer, and the document's: what each of their functions does. -/
import Derived.Test.YtolnacokdjognaaPkR
set_option linter.unusedSimpArgs false
set_option linter.unusedVariables false
set_option linter.unnecessarySimpa false
set_option maxRecDepth 100000
namespace Go.Proofs.Ytolnacokdjognaa
open Go.AM

/-- A writer that stands in an object. -/
def WrAt (lo : Nat) (h : AHeap) (id : Nat) (v : Value) (bs : List Nat) : Prop := h.get id = .cells [v] .rw ∧ Lst rB lo (fun _ => False) h bs v ∧ blk v ≠ some id

theorem WrAt.lt {lo : Nat} {h : AHeap} {id : Nat} {v : Value} {bs : List Nat} (hw : WrAt lo h id v bs) : id < h.next := AHeap.lt_of_alive h (by rw [hw.1]; simp)
theorem WrAt.quiet {lo : Nat} {h h' : AHeap} {id : Nat} {v : Value} {bs : List Nat} (hw : WrAt lo h id v bs) (q : h.quiet h') : WrAt lo h' id v bs := ⟨by rw [q.2 id hw.lt]; exact hw.1, hw.2.1.quiet q, hw.2.2⟩

/-- What is written over: the writer's own. -/
def WrF (id : Nat) (v : Value) : Nat → Prop := fun j => j = id ∨ blk v = some j
/-- Its bytes are where they were, or new. -/
def WrN (h : AHeap) (v v' : Value) : Prop := blk v' = blk v ∨ ∃ ob, blk v' = some ob ∧ h.next ≤ ob
theorem WrN.refl (h : AHeap) (v : Value) : WrN h v v := .inl rfl
theorem WrN.trans {h h' : AHeap} {u v w : Value} (a : WrN h u v) (b : WrN h' v w) (hn : h.next ≤ h'.next) : WrN h u w := by
  rcases b with b | ⟨ob, b, c⟩
  · rcases a with a | ⟨ob, a, d⟩
    · exact .inl (b.trans a)
    · exact .inr ⟨ob, b.trans a, d⟩
  · exact .inr ⟨ob, b, Nat.le_trans hn c⟩
theorem WrF.step {h h' h'' : AHeap} {id : Nat} {v v' : Value} (f : Fw (WrF id v) h h') (n : WrN h v v') (g : Fw (WrF id v') h' h'') : Fw (WrF id v) h h'' :=
  f.trans g (fun _ _ e => e) (fun j hj e => by
    rcases e with e | e
    · exact .inl e
    · rcases n with n | ⟨ob, n, hn⟩
      · exact .inr (n ▸ e)
      · rw [n] at e; cases e; omega)

section
variable {h : AHeap} {id lo : Nat} {v : Value} {bs : List Nat} {S : Nat → Prop}

/-- The field gets one more list of bytes. -/
theorem WrAt.app (hw : WrAt lo h id v bs) (hlo : lo ≤ h.next) {ys : List Nat} (hy : ∀ y ∈ ys, y < 256) (hb : bs.length + ys.length ≤ 140737488355328) :
    ∃ v' h', aappend h 1 1 v ys.length (ys.map fun (n : Nat) => .int .u8 n) = some (v', h') ∧ h'.get id = .cells [v] .rw ∧ WrAt lo (h'.set id (.cells [v'] .rw)) id v' (bs ++ ys) ∧ Fw (WrF id v) h (h'.set id (.cells [v'] .rw)) ∧ WrN h v v' ∧ id < h'.next := by
  obtain ⟨v', h', e, hl, hf, hn⟩ := hw.2.1.app (ys := ys) 1 rfl (bytes := 1) (n := ys.length) (nat_all2 (fun n hn => by have := hy n hn; rw [u8_max]; omega)) rfl (by omega) (by omega) hlo
  rw [nat_flat] at e
  have hlt := hw.lt
  have hlt' : id < h'.next := Nat.lt_of_lt_of_le hlt hf.1
  have hne : blk v' ≠ some id := by
    rcases hn with hn | ⟨ob, hn, hge⟩
    · rw [hn]; exact hw.2.2
    · rw [hn]; simp; omega
  refine ⟨v', h', e, by rw [hf.2 id hlt hw.2.2]; exact hw.1, ⟨AHeap.get_set_self _ _ hlt', ?_, hne⟩, ?_, hn, hlt'⟩
  · exact hl.mono (Nat.le_refl _) (by simp) (fun j hj _ _ => hj.elim) (fun j hj _ => AHeap.get_set_ne _ _ (by intro e; subst e; exact hne hj))
  · refine hf.trans (.set _) (fun j _ e => .inr e) (fun j _ e => .inl e)

theorem Put_ok (hw : WrAt lo h id v bs) (hlo : lo ≤ h.next) {ns : List Nat} {w : Value} (hn : Words S h ns w) (hS : ∀ j, S j → j < h.next → j ≠ id ∧ blk v ≠ some j) (hb : bs.length + 8 * ns.length ≤ 70368744177664) :
    Does Try.prog 20 #[.pointer (some ⟨id, 0, none⟩), w] h
      (fun u h' => u = .tuple #[] ∧ ∃ v', WrAt lo h' id v' (bs ++ ns.flatMap (leB 8)) ∧ Fw (WrF id v) h h' ∧ WrN h v v') := by
  obtain ⟨a, cap, rfl⟩ := hn.shape
  have hlen := hn.len
  refine spec_go mixed Try.func20 rfl Try.results20 (n := Try.f20.ntmps) (by kernel_rfl) (by simp) ?_
  simp only [go_sem, simprocAttr]
  refine go_loop (fun m ρ k => ∃ (i : Nat) (v' : Value), i ≤ ns.length ∧ m = ns.length - i ∧ WrAt lo k id v' (bs ++ (ns.take i).flatMap (leB 8)) ∧ Fw (WrF id v) h k ∧ WrN h v v' ∧
    ρ 0 = .pointer (some ⟨id, 0, none⟩) ∧ ρ 9 = .slice a ns.length cap ∧ ρ 10 = .int .i64 ns.length ∧ ρ 11 = .int .i64 i) ns.length ⟨0, v, by omega, by omega, by simpa using hw, .refl _ _, .refl _ _, by simp only [go_sem, simprocAttr]⟩ ?_
  rintro m ρ k ⟨i, v1, hi, rfl, hw1, hf1, hn1, h0, h9, h10, h11⟩
  simp only [go_sem, simprocAttr, h0, h9, h10, h11]
  refine cnd_decide (fun hx => ?_) (fun hx => ?_)
  · have hx' : i < ns.length := by omega
    have hnk : Words S k ns (.slice a ns.length cap) := hn.fr hf1 (fun j hj hl e => e.elim (hS j hj hl).1 (hS j hj hl).2)
    obtain ⟨b, off, sp, c, md, x, rfl, _, hg, hxi, hmx, hc⟩ := hnk.atN hx'
    rw [u64_max] at hmx
    have e9 : IntKind.i64.wrap ((i : Int) + 1) = ((i + 1 : Nat) : Int) := by rw [wi64] <;> omega
    have hsum : ((ns.take i).flatMap (leB 8)).length = 8 * i := by rw [flat8]; simp; omega
    simp only [go_sem, simprocAttr, h0, h9, h10, h11, hx', hg, hc]
    refine go_loop (fun m ρ' k' => ∃ (j : Nat) (v' : Value), j ≤ 8 ∧ m = 8 - j ∧ WrAt lo k' id v' (bs ++ (ns.take i).flatMap (leB 8) ++ leB j x) ∧ Fw (WrF id v) h k' ∧ WrN h v v' ∧
      ρ' 0 = .pointer (some ⟨id, 0, none⟩) ∧ ρ' 9 = .slice (some ⟨b, off, sp⟩) ns.length cap ∧ ρ' 10 = .int .i64 ns.length ∧ ρ' 11 = .int .i64 i ∧ ρ' 5 = .int .u64 x ∧ ρ' 6 = .int .i64 (8 * j : Nat)) 8
      ⟨0, v1, by omega, by omega, by simpa [leB] using hw1, hf1, hn1, by simp only [go_sem, simprocAttr, h0, h9, h10, h11]⟩ ?_
    rintro m ρ' k' ⟨j, v2, hj, rfl, hw2, hf2, hn2, h0, h9, h10, h11, h5, h6⟩
    simp only [go_sem, simprocAttr, h0, h9, h10, h11, h5, h6]
    refine cnd_decide (fun hy => ?_) (fun hy => ?_)
    · have hj8 : j < 8 := by omega
      have q : k'.quiet (k'.push (.cells [.int .u8 ((x / 256 ^ j % 256 : Nat) : Int)] .rw)) := .push _ _
      have eb := shr_byte (n := x) hj8
      obtain ⟨v3, k3, e, hg3, hw3, hf3, hn3, hlt3⟩ := (hw2.quiet q).app (ys := [x / 256 ^ j % 256]) (Nat.le_trans hlo (Nat.le_trans hf2.1 q.1)) (by simp; omega) (by simp [hsum, leB_length]; omega)
      simp only [List.length_cons, List.length_nil, Nat.zero_add, List.map_cons, List.map_nil] at e
      obtain ⟨a3, cap3, hv3, _⟩ := hw3.2.1.len
      subst hv3
      have e8 : IntKind.i64.wrap (((8 * j : Nat) : Int) + 8) = ((8 * (j + 1) : Nat) : Int) := by rw [wi64] <;> omega
      simp only [go_sem, simprocAttr, h0, h9, h10, h11, h5, h6, hw2.1, eb, e, hg3, hlt3, e8]
      refine Hold.mk ⟨8 - (j + 1), by omega, j + 1, _, by omega, rfl, ?_, WrF.step hf2 hn2 (hf3.after q), hn2.trans hn3 (Nat.le_trans hf2.1 q.1), ?_⟩
      · rw [leB_succ]; simpa using hw3
      · simp only [go_sem, simprocAttr, h0, h9, h10, h11, h5]
    · have hj8 : j = 8 := by omega
      subst hj8
      simp only [go_sem, simprocAttr, h0, h9, h10, h11, h5, h6, e9]
      refine Hold.mk ⟨ns.length - (i + 1), by omega, i + 1, v2, by omega, rfl, ?_, hf2, hn2, ?_⟩
      · rw [List.take_add_one, hxi]
        simpa [List.flatMap_append] using hw2
      · simp only [go_sem, simprocAttr, h0, h9, h10, h11]
  · have : i = ns.length := by omega
    subst this
    simp only [go_sem, simprocAttr]
    rw [List.take_length] at hw1
    exact ⟨v1, hw1, hf1, hn1⟩

/-- The bytes of parts. -/
def partsB (l : List (List Nat)) : List Nat := l.flatMap fun p => leB 8 p.length ++ p
theorem partsB_length (l : List (List Nat)) : (partsB l).length = (l.map fun p => p.length + 8).sum := by
  unfold partsB
  induction l with
  | nil => rfl
  | cons p l ih => rw [List.flatMap_cons, List.length_append, ih, List.length_append, leB_length]; simp; omega
theorem sum_take_le (f : List Nat → Nat) : ∀ (l : List (List Nat)) (i : Nat), ((l.take i).map f).sum ≤ (l.map f).sum
  | [], i => by simp
  | x :: l, 0 => by simp
  | x :: l, i + 1 => by have := sum_take_le f l i; simp only [List.take_succ_cons, List.map_cons, List.sum_cons]; omega
theorem partsB_take {l : List (List Nat)} {i : Nat} {p : List Nat} (hi : l[i]? = some p) : partsB (l.take (i + 1)) = partsB (l.take i) ++ (leB 8 p.length ++ p) := by
  unfold partsB; rw [List.take_add_one, hi]; simp [List.flatMap_append]
theorem partsB_le {l : List (List Nat)} {i : Nat} {p : List Nat} (hi : l[i]? = some p) : (partsB (l.take i)).length + p.length + 8 ≤ (partsB l).length := by
  have h1 := congrArg List.length (partsB_take hi)
  rw [List.length_append, List.length_append, leB_length] at h1
  have h2 := sum_take_le (fun p => p.length + 8) l (i + 1)
  rw [← partsB_length, ← partsB_length] at h2
  omega

theorem Part_ok (hw : WrAt lo h id v bs) (hlo : lo ≤ h.next) {l : List (List Nat)} {w : Value} (hn : IsSl rB.list S h l w) (hS : ∀ j, S j → j < h.next → j ≠ id ∧ blk v ≠ some j) (hb : bs.length + (partsB l).length ≤ 70368744177664) :
    Does Try.prog 38 #[.pointer (some ⟨id, 0, none⟩), w] h
      (fun u h' => u = .tuple #[] ∧ ∃ v', WrAt lo h' id v' (bs ++ partsB l) ∧ Fw (WrF id v) h h' ∧ WrN h v v') := by
  obtain ⟨a, cap, rfl⟩ := hn.shape
  have hlen := hn.len
  have hn := hn.bound
  refine spec_go mixed Try.func38 rfl Try.results38 (n := Try.f38.ntmps) (by kernel_rfl) (by simp) ?_
  simp only [go_sem, simprocAttr]
  refine go_loop (fun m ρ k => ∃ (i : Nat) (v' : Value), i ≤ l.length ∧ m = l.length - i ∧ WrAt lo k id v' (bs ++ partsB (l.take i)) ∧ Fw (WrF id v) h k ∧ WrN h v v' ∧
    ρ 0 = .pointer (some ⟨id, 0, none⟩) ∧ ρ 8 = .slice a l.length cap ∧ ρ 9 = .int .i64 l.length ∧ ρ 10 = .int .i64 i) l.length ⟨0, v, by omega, by omega, by simpa [partsB] using hw, .refl _ _, .refl _ _, by simp only [go_sem, simprocAttr]⟩ ?_
  rintro m ρ k ⟨i, v1, hi, rfl, hw1, hf1, hn1, h0, h8, h9, h10⟩
  simp only [go_sem, simprocAttr, h0, h8, h9, h10]
  refine cnd_decide (fun hx => ?_) (fun hx => ?_)
  · have hx' : i < l.length := by omega
    have hnk : IsSl rB.list (fun j => S j ∧ j < h.next) k l (.slice a l.length cap) := hn.fr hf1 (fun j hj hl e => e.elim (hS j hj.1 hl).1 (hS j hj.1 hl).2)
    obtain ⟨b, off, sp, c, md, p, u, rfl, hSb, hg, hxi, hp, hc⟩ := hnk.atL hx'
    obtain ⟨ap, cp, rfl⟩ := hp.shape
    have hple := hp.len
    have hpl := partsB_le hxi
    have hpt : (partsB (l.take i)).length ≤ (partsB l).length := by omega
    have e9 : IntKind.i64.wrap ((i : Int) + 1) = ((i + 1 : Nat) : Int) := by rw [wi64] <;> omega
    have e8 : IntKind.u64.wrap (p.length : Int) = p.length := by rw [wu64] <;> omega
    simp only [go_sem, simprocAttr, h0, h8, h9, h10, hx', hg, hc, e8]
    have q : k.quiet (k.push (.cells [.int .u64 (p.length : Nat)] .rw)) := .push _ _
    refine cl_spec (Put_ok (hw1.quiet q) (Nat.le_trans hlo (Nat.le_trans hf1.1 q.1)) (S := (· = k.next)) (ns := [p.length]) (IsSl.fresh1 (by rw [u64_max]; omega)) ?_ (by simp; omega)) (fun _ _ _ hc => absurd hc (by decide +kernel)) ?_
    · rintro j rfl _
      refine ⟨by have := hw1.lt; omega, fun e => by have := (hw1.2.1.blk_ge e).2; omega⟩
    rintro u k1 ⟨rfl, v2, hw2, hf2, hn2⟩
    simp only [List.flatMap_cons, List.flatMap_nil, List.append_nil] at hw2
    have hfk : Fw (WrF id v) h k1 := WrF.step hf1 hn1 (hf2.after q)
    have hpk : IsSl rB (fun j => S j ∧ j < h.next) k1 p (.slice ap p.length cp) := by
      refine (hp.quiet q).fr hf2 (fun j hj hl e => ?_)
      rcases e with e | e
      · exact (hS j hj.1 hj.2).1 e
      · rcases hn1 with hn1 | ⟨ob, hn1, hge⟩
        · exact (hS j hj.1 hj.2).2 (hn1 ▸ e)
        · rw [hn1] at e; cases e; have := hj.2; omega
    obtain ⟨v3, k3, e, hg3, hw3, hf3, hn3, hlt3⟩ := hw2.app (ys := p) (Nat.le_trans hlo hfk.1) hpk.lt256 (by simp [leB_length]; omega)
    obtain ⟨a3, cap3, hv3, _⟩ := hw3.2.1.len
    subst hv3
    simp only [go_sem, simprocAttr, h0, h8, h9, h10, hw2.1, hpk.acellsN, e, hg3, hlt3, e9]
    refine Hold.mk ⟨l.length - (i + 1), by omega, i + 1, _, by omega, rfl, ?_, WrF.step hfk (hn1.trans hn2 (Nat.le_trans hf1.1 q.1)) hf3, (hn1.trans hn2 (Nat.le_trans hf1.1 q.1)).trans hn3 hfk.1, ?_⟩
    · rw [partsB_take hxi]; simpa using hw3
    · simp only [go_sem, simprocAttr, h0, h8, h9, h10]
  · have : i = l.length := by omega
    subst this
    simp only [go_sem, simprocAttr]
    rw [List.take_length] at hw1
    exact ⟨v1, hw1, hf1, hn1⟩

theorem BytesL_ok (hw : WrAt lo h id v bs) (hb : bs.length ≤ 140737488355328) : Does Try.prog 22 #[.pointer (some ⟨id, 0, none⟩)] h (fun u h' => h.quiet h' ∧ Lst rB h.next (fun _ => False) h' bs u) := by
  refine spec_go mixed Try.func22 rfl Try.results22 (n := Try.f22.ntmps) (by kernel_rfl) (by simp) ?_
  simp only [go_sem, simprocAttr, hw.1]
  have hbs : Bytes (fun j => lo ≤ j) h bs v := hw.2.1.isSl (fun _ e _ => e.elim) (fun _ e => e)
  refine cl_spec (cloneL_ok hbs hb) (fun _ _ _ hc => absurd hc (by decide +kernel)) ?_
  rintro u h' ⟨hq, hb⟩
  simp only [go_sem, simprocAttr]
  exact ⟨hq, hb⟩

theorem Bytes_ok (hw : WrAt lo h id v bs) (hb : bs.length ≤ 140737488355328) : Does Try.prog 22 #[.pointer (some ⟨id, 0, none⟩)] h (fun u h' => h.quiet h' ∧ IsSl rB (fun j => h.next ≤ j) h' bs u) := by
  refine spec_go mixed Try.func22 rfl Try.results22 (n := Try.f22.ntmps) (by kernel_rfl) (by simp) ?_
  simp only [go_sem, simprocAttr, hw.1]
  have hbs : Bytes (fun j => lo ≤ j) h bs v := hw.2.1.isSl (fun _ e _ => e.elim) (fun _ e => e)
  refine cl_spec (clone_ok hbs hb) (fun _ _ _ hc => absurd hc (by decide +kernel)) ?_
  rintro u h' ⟨hq, hb⟩
  simp only [go_sem, simprocAttr]
  exact ⟨hq, hb⟩


theorem same_ok {xs : List Nat} {w : Value} (ha : Bytes S h xs v) (hb : Bytes S h bs w) : Does Try.prog 14 #[v, w] h (fun u h' => u = .bool (decide (xs = bs)) ∧ h' = h) := by
  obtain ⟨aa, ca, rfl⟩ := ha.shape
  obtain ⟨ab, cb, rfl⟩ := hb.shape
  refine spec_go mixed Try.func14 rfl Try.results14 (n := Try.f14.ntmps) (by kernel_rfl) (by simp) ?_
  simp only [go_sem, simprocAttr, ha.acellsN, hb.acellsN, ba_inj ha.lt256 hb.lt256]

end
end Go.Proofs.Ytolnacokdjognaa
