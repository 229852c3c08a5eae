/- shard: what a shard is, as plain Lean, and how it stands in the heap. -/
import Derived.Test.YtjkganmkfhciiaaShB
set_option linter.unusedSimpArgs false
set_option linter.unusedVariables false
set_option linter.unnecessarySimpa false
set_option maxRecDepth 100000
namespace Go.Proofs.Ytjkganmkfhciiaa
open Go.AM

/-! A map of numbers. -/
def MsI (es : List MapEntry) (m : List (Int × Int)) : Prop := es.map (fun e => (e.key, e.val)) = m.map fun p => (Value.int .i64 p.1, Value.int .i64 p.2)
def lookS : List (Int × Int) → Int → Option Int
  | [], _ => none
  | p :: ps, n => if n = p.1 then some p.2 else lookS ps n
def delS : List (Int × Int) → Int → List (Int × Int)
  | [], _ => []
  | p :: ps, n => if n = p.1 then ps else p :: delS ps n
theorem MsI.len {es : List MapEntry} {m : List (Int × Int)} (hm : MsI es m) : es.length = m.length := by simpa using congrArg List.length hm
theorem MsI.find {n : Int} : ∀ {es : List MapEntry} {m : List (Int × Int)} (_ : MsI es m) (i : Nat), (∃ k r, lookS m n = some r ∧ afind .i64 n es i = some (some (i + k, .int .i64 r)) ∧ MsI (es.eraseIdx k) (delS m n)) ∨
    (afind .i64 n es i = some none ∧ lookS m n = none)
  | [], [], _, i => .inr ⟨rfl, rfl⟩
  | [], _ :: _, hm, _ => by simp [MsI] at hm
  | _ :: _, [], hm, _ => by simp [MsI] at hm
  | e :: es, p :: ps, hm, i => by
    unfold MsI at hm
    simp only [List.map_cons, List.cons.injEq, Prod.mk.injEq] at hm
    obtain ⟨⟨h1, h2⟩, h3⟩ := hm
    unfold afind lookS delS
    simp only [h1, if_true]
    by_cases hn : n = p.1
    · left
      refine ⟨0, p.2, by rw [if_pos hn], by rw [if_pos hn, h2]; rfl, ?_⟩
      rw [if_pos hn]
      exact h3
    · simp only [if_neg hn]
      rcases MsI.find (n := n) (es := es) (m := ps) h3 (i + 1) with ⟨k, r, k0, k1, k2⟩ | ⟨k1, k2⟩
      · refine .inl ⟨k + 1, r, k0, by rw [k1]; congr 3; omega, ?_⟩
        simp only [MsI, List.eraseIdx_cons_succ, List.map_cons, h1, h2] at k2 ⊢
        rw [k2]
      · exact .inr ⟨k1, k2⟩
theorem MsI.add {es : List MapEntry} {m : List (Int × Int)} (hm : MsI es m) (n v : Int) (b : Nat) : MsI (es ++ [{ key := .int .i64 n, val := .int .i64 v, born := b }]) (m ++ [(n, v)]) := by
  unfold MsI at hm ⊢
  rw [List.map_append, List.map_append, hm]; rfl

/-! What stays. -/
def Ks (T : Nat → Prop) (own : Nat → Nat) (h : AHeap) (own' : Nat → Nat) (h' : AHeap) : Prop := h.next ≤ h'.next ∧ ∀ j, j < h.next → own' j = own j ∧ (¬ T (own j) → h'.get j = h.get j)
section
variable {T T' : Nat → Prop} {own own' own'' : Nat → Nat} {h h' h'' : AHeap}
theorem Ks.refl : Ks T own h own h := ⟨Nat.le_refl _, fun _ _ => ⟨rfl, fun _ => rfl⟩⟩
theorem Ks.weaken (a : Ks T own h own' h') (hm : ∀ t, T t → T' t) : Ks T' own h own' h' := ⟨a.1, fun j hj => ⟨(a.2 j hj).1, fun e => (a.2 j hj).2 fun e' => e (hm _ e')⟩⟩
theorem Ks.trans (a : Ks T own h own' h') (b : Ks T own' h' own'' h'') : Ks T own h own'' h'' :=
  ⟨Nat.le_trans a.1 b.1, fun j hj => ⟨((b.2 j (Nat.lt_of_lt_of_le hj a.1)).1).trans (a.2 j hj).1, fun e => ((b.2 j (Nat.lt_of_lt_of_le hj a.1)).2 (fun e2 => e ((a.2 j hj).1 ▸ e2))).trans ((a.2 j hj).2 e)⟩⟩
theorem Ks.quiet (q : h.quiet h') (t : Nat) : Ks T own h (bump own h t) h' := ⟨q.1, fun j hj => ⟨bump_lt hj, fun _ => q.2 j hj⟩⟩
theorem Ks.set {id : Nat} (ho : T (own id)) (o : AObj) : Ks T own h own (h.set id o) := ⟨by simp, fun j _ => ⟨rfl, fun e => AHeap.get_set_ne _ _ (by rintro rfl; exact e ho)⟩⟩
theorem Ks.fw {W : Nat → Prop} (f : Fw W h h') (hw : ∀ j, j < h.next → W j → T (own j)) (t : Nat) : Ks T own h (bump own h t) h' := ⟨f.1, fun j hj => ⟨bump_lt hj, fun e => f.2 j hj fun e' => e (hw j hj e')⟩⟩
theorem Ks.kp (k : Kp own h own' h') (ht : T 1) : Ks T own h own' h' := ⟨k.1, fun j hj => ⟨(k.2 j hj).1, fun e => (k.2 j hj).2 fun e' => e (e' ▸ ht)⟩⟩
theorem Ks.tg (k : Ks T own h own' h') {s : Nat} (hs : ¬ T s) : ∀ j, tg own s j → j < h.next → tg own' s j ∧ h'.get j = h.get j := fun j hj hl => ⟨((k.2 j hl).1).trans hj, (k.2 j hl).2 fun e => hs (hj ▸ e)⟩
theorem FoAt.ks {id : Nat} {ts : List Proofs.Ytjkganmkfhciiaa.T} (ha : FoAt own h id ts) (k : Ks T own h own' h') (h1 : ¬ T 1) (h2 : ¬ T 2) : FoAt own' h' id ts := ha.mono k.1 fun t ht => k.tg (by rcases ht with rfl | rfl <;> assumption)
end

/-! A shard. -/
structure Sm where
  n : Int
  ts : List T
  us : List Nat
  gen : Int
  now : Int
  sure : Int
  opn : List Bop
  snaps : List (Int × Int)
  frozen : Bool
def Sm.find (m : Sm) (id : Int) : Int × Int := match lookS m.snaps id with | some r => (r, 0) | none => (0, 9)
def Sm.vol (m : Sm) (root : Int) : List Nat := viewL m.us m.n.toNat (F.part m.ts root 0 1024).1

def OpL (own : Nat → Nat) (h : AHeap) (xs : List Bop) (v : Value) : Prop := Lst rBop 0 (tg own 9) h xs v ∧ ∀ j, blk v = some j → own j = 8
def MpAt (own : Nat → Nat) (h : AHeap) (mid : Nat) (m : List (Int × Int)) : Prop := own mid = 10 ∧ ∃ es ck, h.get mid = .map es ck ∧ MsI es m
def OrL (own : Nat → Nat) (h : AHeap) (xs : List Int) (v : Value) : Prop := (∀ x ∈ xs, inI x) ∧
  ((xs = [] ∧ v = .slice none 0 0) ∨ ∃ ob c cap, v = .slice (some ⟨ob, 0, some 1⟩) xs.length cap ∧ own ob = 11 ∧ h.get ob = .cells c (.tail 1) ∧ c.length = cap ∧ xs.length ≤ cap ∧ cap ≤ 1099511627776 ∧ c.take xs.length = xs.map fun x => .int .i64 x)
def shC (m : Sm) (fid : Nat) (uv ov : Value) (mid : Nat) (rv : Value) : List Value := [.int .i64 m.n, .pointer (some ⟨fid, 0, none⟩), uv, .int .i64 m.gen, .int .i64 m.now, .int .i64 m.sure, ov, .map (some mid), rv, .bool m.frozen]
structure ShC (own : Nat → Nat) (h : AHeap) (m : Sm) (fid : Nat) (uv ov : Value) (mid : Nat) (rv : Value) : Prop where
  fo : FoAt own h fid m.ts
  un : OwnL rW (tg own 7) h m.us uv
  op : OpL own h m.opn ov
  mp : MpAt own h mid m.snaps
  od : OrL own h (m.snaps.map Prod.fst) rv
def ShAt (own : Nat → Nat) (h : AHeap) (id : Nat) (m : Sm) : Prop := own id = 6 ∧ ∃ fid uv ov mid rv, h.get id = .cells (shC m fid uv ov mid rv) .rw ∧ ShC own h m fid uv ov mid rv
/-- The shard's own, that turn. -/
def shT (t : Nat) : Prop := t = 1 ∨ t = 6 ∨ t = 7 ∨ t = 8 ∨ t = 10 ∨ t = 11
section
variable {T : Nat → Prop} {own own' own'' : Nat → Nat} {h h' h'' : AHeap} {m : Sm} {id : Nat} {v : Value}
theorem OpL.ks {xs : List Bop} (o : OpL own h xs v) (k : Ks T own h own' h') (h1 : ¬ T 8) (h2 : ¬ T 9) : OpL own' h' xs v :=
  ⟨o.1.mono (Nat.le_refl _) k.1 (fun j hj hl _ => k.tg h2 j hj hl) (fun j hj hl => (k.tg h1 j (o.2 j hj) hl).2), fun j hj => (k.tg h1 j (o.2 j hj) (o.1.blk_ge hj).2).1⟩
theorem OpL.slz {xs : List Bop} (o : OpL own h xs v) : IsSl rBop (fun j => own j = 8 ∨ own j = 9) h xs v := by
  obtain ⟨⟨css, ha, h0, ⟨a, rfl, rfl, k⟩ | ⟨ob, rfl, hlo, hg⟩⟩, hz⟩ := o
  · exact .empty fun ad e => .inl (k ad e).1
  · refine ⟨_, _, css, rfl, Nat.le_refl _, Nat.le_trans h0 (by decide), (fun h => by cases h), (fun ad h => by cases h; exact .inr rfl), ?_, fun _ => ⟨_, _, _, rfl, .inl (hz _ rfl), hg, ?_, ?_⟩⟩
    · exact ha.moves fun j hj hl => ⟨.inr hj.1, rfl⟩
    · rw [ha.flat]; simp
    · rw [List.drop_zero, List.take_of_length_le]; rw [ha.flat]; exact Nat.le_refl _
theorem MpAt.ks {mid : Nat} {xs : List (Int × Int)} (o : MpAt own h mid xs) (k : Ks T own h own' h') (h1 : ¬ T 10) : MpAt own' h' mid xs := by
  obtain ⟨a, es, ck, b, c⟩ := o
  have hl := AHeap.lt_of_alive h (i := mid) (by rw [b]; simp)
  exact ⟨(k.tg h1 mid a hl).1, es, ck, (k.tg h1 mid a hl).2.trans b, c⟩
theorem OrL.ks {xs : List Int} (o : OrL own h xs v) (k : Ks T own h own' h') (h1 : ¬ T 11) : OrL own' h' xs v := by
  obtain ⟨a, b | ⟨ob, c, cap, b, d, e, f⟩⟩ := o
  · exact ⟨a, .inl b⟩
  · have hl := AHeap.lt_of_alive h (i := ob) (by rw [e]; simp)
    exact ⟨a, .inr ⟨ob, c, cap, b, (k.tg h1 ob d hl).1, (k.tg h1 ob d hl).2.trans e, f⟩⟩
theorem OrL.slz {xs : List Int} (o : OrL own h xs v) : Ints (tg own 11) h xs v := by
  obtain ⟨a, ⟨rfl, rfl⟩ | ⟨ob, c, cap, rfl, b, d, e, f, g, i⟩⟩ := o
  · exact .nil _ _ _
  · refine ⟨_, cap, xs.map fun x => [.int .i64 x], rfl, f, by omega, (fun h => by cases h), (fun ad h => by cases h; exact .inr rfl), int_all2 fun x hx => inI_iff.1 (a x hx), fun _ => ⟨_, _, _, rfl, b, d, ?_, ?_⟩⟩
    · show 0 + xs.length * 1 ≤ _; omega
    · rw [int_flat, List.drop_zero]; show List.take (xs.length * 1) c = _; rw [Nat.mul_one]; exact i
theorem ShC.ks {fid mid : Nat} {uv ov rv : Value} (c : ShC own h m fid uv ov mid rv) (k : Ks T own h own' h') (hT : ∀ t, T t → t ≠ 1 ∧ t ≠ 2 ∧ t ≠ 7 ∧ t ≠ 8 ∧ t ≠ 9 ∧ t ≠ 10 ∧ t ≠ 11) : ShC own' h' m fid uv ov mid rv :=
  ⟨c.fo.ks k (fun e => (hT _ e).1 rfl) (fun e => (hT _ e).2.1 rfl), c.un.mono k.1 (k.tg fun e => (hT _ e).2.2.1 rfl), c.op.ks k (fun e => (hT _ e).2.2.2.1 rfl) (fun e => (hT _ e).2.2.2.2.1 rfl), c.mp.ks k (fun e => (hT _ e).2.2.2.2.2.1 rfl), c.od.ks k (fun e => (hT _ e).2.2.2.2.2.2 rfl)⟩
theorem ShAt.lt (a : ShAt own h id m) : id < h.next := by obtain ⟨_, _, _, _, _, _, hg, _⟩ := a; exact AHeap.lt_of_alive h (by rw [hg]; simp)
theorem ShAt.ks (a : ShAt own h id m) (k : Ks T own h own' h') (hT : ∀ t, T t → t ≠ 1 ∧ t ≠ 2 ∧ t ≠ 7 ∧ t ≠ 8 ∧ t ≠ 9 ∧ t ≠ 10 ∧ t ≠ 11) (h6 : ¬ T 6) : ShAt own' h' id m := by
  have hl := a.lt
  obtain ⟨ho, fid, uv, ov, mid, rv, hg, c⟩ := a
  exact ⟨(k.tg h6 id ho hl).1, fid, uv, ov, mid, rv, (k.tg h6 id ho hl).2.trans hg, c.ks k hT⟩
theorem ShAt.quiet (a : ShAt own h id m) (q : h.quiet h') (t : Nat) : ShAt (bump own h t) h' id m := a.ks (T := fun _ => False) (.quiet q t) (fun _ e => e.elim) (fun e => e)

theorem sok_ok (a : ShAt own h id m) : Does Try.prog 29 #[.pointer (some ⟨id, 0, none⟩)] h (fun u h' => u = .bool true ∧ h' = h) := by
  obtain ⟨ho, fid, uv, ov, mid, rv, hg, c⟩ := a
  unfold shC at hg
  refine spec_go mixed Try.func29 rfl Try.results29 (n := Try.f29.ntmps) (by kernel_rfl) (by simp) ?_
  simp only [go_sem, simprocAttr, hg]
theorem sfind_ok (a : ShAt own h id m) {x : Int} : Does Try.prog 32 #[.pointer (some ⟨id, 0, none⟩), .int .i64 x] h (fun u h' => u = .tuple #[.int .i64 (m.find x).1, .int .i64 (m.find x).2] ∧ h' = h) := by
  refine spec_go mixed Try.func32 rfl Try.results32 (n := Try.f32.ntmps) (by kernel_rfl) (by simp) ?_
  simp only [go_sem, simprocAttr]
  refine cl_spec (sok_ok a) (fun _ _ _ hc => absurd hc (by decide +kernel)) ?_
  rintro u k ⟨rfl, rfl⟩
  obtain ⟨ho, fid, uv, ov, mid, rv, hg, c⟩ := a
  obtain ⟨_, es, ck, gm, hm⟩ := c.mp
  unfold shC at hg
  have e : ∀ r, lookS m.snaps x = some r → alookup Try.prog k 60 (.map (some mid)) (.int .i64 x) true = some (.tuple #[.int .i64 r, .bool true]) := fun r hr => by
    unfold alookup
    simp only [go_sem, gm]
    rcases hm.find (n := x) 0 with ⟨j, r', k0, k1, _⟩ | ⟨k1, k2⟩
    · rw [k1]; rw [hr] at k0; cases k0; rfl
    · rw [hr] at k2; cases k2
  have e' : lookS m.snaps x = none → alookup Try.prog k 60 (.map (some mid)) (.int .i64 x) true = some (.tuple #[.int .i64 0, .bool false]) := fun hr => by
    unfold alookup
    simp only [go_sem, gm]
    rcases hm.find (n := x) 0 with ⟨j, r', k0, k1, _⟩ | ⟨k1, k2⟩
    · rw [hr] at k0; cases k0
    · rw [k1]
  unfold Sm.find
  cases hl : lookS m.snaps x with
  | some r => simp only [go_sem, simprocAttr, hg, e r hl]
  | none => simp only [go_sem, simprocAttr, hg, e' hl]
theorem sFlush_ok (a : ShAt own h id m) : Does Try.prog 26 #[.pointer (some ⟨id, 0, none⟩)] h (fun u h' => u = .int .i64 0 ∧ ShAt own h' id { m with sure := m.now, opn := [] } ∧ Ks (· = 6) own h own h') := by
  refine spec_go mixed Try.func26 rfl Try.results26 (n := Try.f26.ntmps) (by kernel_rfl) (by simp) ?_
  simp only [go_sem, simprocAttr]
  refine cl_spec (sok_ok a) (fun _ _ _ hc => absurd hc (by decide +kernel)) ?_
  rintro u k ⟨rfl, rfl⟩
  have hl := a.lt
  obtain ⟨ho, fid, uv, ov, mid, rv, hg, c⟩ := a
  obtain ⟨au, cu, rfl⟩ := c.un.sl.shape
  obtain ⟨ao, co, rfl⟩ := c.op.slz.shape
  unfold shC at hg
  simp only [go_sem, simprocAttr, hg, AHeap.get_set_self _ _ hl, AHeap.set_set]
  have k6 : Ks (· = 6) own k own (k.set id (.cells (shC { m with sure := m.now, opn := [] } fid (.slice au m.us.length cu) (.slice none 0 0) mid rv) .rw)) := .set (T := (· = 6)) ho _
  refine ⟨⟨ho, fid, _, _, mid, rv, AHeap.get_set_self _ _ hl, ?_⟩, k6⟩
  have c' := c.ks k6 (by omega)
  exact ⟨c'.fo, c'.un, ⟨.nil _ _ _ _, fun j e => by cases e⟩, c'.mp, c'.od⟩
theorem sFreeze_ok (a : ShAt own h id m) {b : Bool} : Does Try.prog 11 #[.pointer (some ⟨id, 0, none⟩), .bool b] h (fun u h' => u = .int .i64 0 ∧ ShAt own h' id { m with frozen := b } ∧ Ks (· = 6) own h own h') := by
  refine spec_go mixed Try.func11 rfl Try.results11 (n := Try.f11.ntmps) (by kernel_rfl) (by simp) ?_
  simp only [go_sem, simprocAttr]
  refine cl_spec (sok_ok a) (fun _ _ _ hc => absurd hc (by decide +kernel)) ?_
  rintro u k ⟨rfl, rfl⟩
  have hl := a.lt
  obtain ⟨ho, fid, uv, ov, mid, rv, hg, c⟩ := a
  unfold shC at hg
  simp only [go_sem, simprocAttr, hg, AHeap.get_set_self _ _ hl]
  have k6 : Ks (· = 6) own k own (k.set id (.cells (shC { m with frozen := b } fid uv ov mid rv) .rw)) := .set (T := (· = 6)) ho _
  refine ⟨⟨ho, fid, _, _, mid, rv, AHeap.get_set_self _ _ hl, ?_⟩, k6⟩
  have c' := c.ks k6 (by omega)
  exact ⟨c'.fo, c'.un, c'.op, c'.mp, c'.od⟩
theorem sFrozen_ok (a : ShAt own h id m) : Does Try.prog 13 #[.pointer (some ⟨id, 0, none⟩)] h (fun u h' => u = .bool m.frozen ∧ h' = h) := by
  refine spec_go mixed Try.func13 rfl Try.results13 (n := Try.f13.ntmps) (by kernel_rfl) (by simp) ?_
  simp only [go_sem, simprocAttr]
  refine cl_spec (sok_ok a) (fun _ _ _ hc => absurd hc (by decide +kernel)) ?_
  rintro u k ⟨rfl, rfl⟩
  obtain ⟨ho, fid, uv, ov, mid, rv, hg, c⟩ := a
  unfold shC at hg
  simp only [go_sem, simprocAttr, hg]
theorem sDirty_ok (a : ShAt own h id m) : Does Try.prog 22 #[.pointer (some ⟨id, 0, none⟩)] h (fun u h' => u = .int .i64 m.opn.length ∧ h' = h) := by
  refine spec_go mixed Try.func22 rfl Try.results22 (n := Try.f22.ntmps) (by kernel_rfl) (by simp) ?_
  simp only [go_sem, simprocAttr]
  refine cl_spec (sok_ok a) (fun _ _ _ hc => absurd hc (by decide +kernel)) ?_
  rintro u k ⟨rfl, rfl⟩
  obtain ⟨ho, fid, uv, ov, mid, rv, hg, c⟩ := a
  obtain ⟨ao, co, rfl⟩ := c.op.slz.shape
  unfold shC at hg
  simp only [go_sem, simprocAttr, hg]
theorem sSnaps_ok (a : ShAt own h id m) (hl : m.snaps.length ≤ 1099511627776) : Does Try.prog 16 #[.pointer (some ⟨id, 0, none⟩)] h (fun u h' => Lst rI h.next (fun _ => False) h' (m.snaps.map Prod.fst) u ∧ h.quiet h') := by
  refine spec_go mixed Try.func16 rfl Try.results16 (n := Try.f16.ntmps) (by kernel_rfl) (by simp) ?_
  simp only [go_sem, simprocAttr]
  refine cl_spec (sok_ok a) (fun _ _ _ hc => absurd hc (by decide +kernel)) ?_
  rintro u k ⟨rfl, rfl⟩
  obtain ⟨ho, fid, uv, ov, mid, rv, hg, c⟩ := a
  have hs := c.od.slz
  obtain ⟨ar, cr, rfl⟩ := hs.shape
  unfold shC at hg
  simp only [go_sem, simprocAttr, hg]
  refine cl_spec (cloneI_ok hs (by rw [List.length_map]; exact hl)) (fun _ _ _ hc => absurd hc (by decide +kernel)) ?_
  rintro u k1 ⟨q1, l1⟩
  obtain ⟨au, cu, rfl, _⟩ := l1.len
  simp only [go_sem, simprocAttr]
  exact ⟨l1, q1⟩
theorem sRollback_ok (a : ShAt own h id m) {x : Int} : Does Try.prog 28 #[.pointer (some ⟨id, 0, none⟩), .int .i64 x] h (fun u h' => u = .int .i64 (if (m.find x).2 ≠ 0 then (m.find x).2 else if m.frozen then 11 else 0) ∧
    ShAt own h' id (if (m.find x).2 ≠ 0 ∨ m.frozen = true then m else { m with now := (m.find x).1, sure := (m.find x).1, opn := [] }) ∧ Ks (· = 6) own h own h') := by
  refine spec_go mixed Try.func28 rfl Try.results28 (n := Try.f28.ntmps) (by kernel_rfl) (by simp) ?_
  simp only [go_sem, simprocAttr]
  refine cl_spec (sfind_ok a) (fun _ _ _ hc => absurd hc (by decide +kernel)) ?_
  rintro u k ⟨rfl, rfl⟩
  have a0 := a
  have hl := a.lt
  obtain ⟨ho, fid, uv, ov, mid, rv, hg, c⟩ := a
  unfold shC at hg
  by_cases e0 : (m.find x).2 = 0
  · cases hf : m.frozen with
    | true =>
      rw [hf] at hg
      simp only [go_sem, simprocAttr, hg, e0]
      exact ⟨a0, .refl⟩
    | false =>
      rw [hf] at hg
      simp only [go_sem, simprocAttr, hg, e0]
      have k6 : Ks (· = 6) own k own (k.set id (.cells (shC { m with now := (m.find x).1 } fid uv ov mid rv) .rw)) := .set (T := (· = 6)) ho _
      have a' : ShAt own (k.set id (.cells (shC { m with now := (m.find x).1 } fid uv ov mid rv) .rw)) id { m with now := (m.find x).1 } := by
        have c' := c.ks k6 (by omega)
        exact ⟨ho, fid, _, _, mid, rv, AHeap.get_set_self _ _ hl, c'.fo, c'.un, c'.op, c'.mp, c'.od⟩
      unfold shC at a' k6
      dsimp only at a' k6
      rw [hf] at a' k6
      refine cl_spec (sFlush_ok a') (fun _ _ _ hc => absurd hc (by decide +kernel)) ?_
      rintro u k1 ⟨rfl, a1, k61⟩
      simp only [go_sem, simprocAttr]
      exact ⟨by simpa [e0, hf] using a1, k6.trans k61⟩
  · simp only [go_sem, simprocAttr, hg, e0]
    exact ⟨by simpa [e0] using a0, .refl⟩
end
end Go.Proofs.Ytjkganmkfhciiaa
