/- net: bags that nobody made; bytes written over. -/
import Derived.Test.YtclfemiiibgfdaaNeL
set_option linter.unusedSimpArgs false
set_option linter.unusedVariables false
set_option linter.unnecessarySimpa false
set_option maxRecDepth 100000
namespace Go.Proofs.Ytclfemiiibgfdaa
open Go.AM

/-- A bag that nobody made. -/
def NoB (h : AHeap) (p : Option Addr) : Prop := p = none ∨ ∃ id, p = some ⟨id, 0, none⟩ ∧ h.get id = .cells [.bool false, .slice none 0 0] .rw
structure NAct where
  kd : Nat
  i : Int
  at_ : Int
  by_ : Nat
  b : List (List Nat)
def NAct.cs (a : NAct) (v : Value) : List Value := [.int .u8 (a.kd : Nat), .int .i64 a.i, .int .i64 a.at_, .int .u8 (a.by_ : Nat), v]
theorem u8_ex (z : Int) : ∃ y : Nat, IntKind.u8.wrap z = (y : Nat) ∧ (y : Int) ≤ IntKind.u8.max := ⟨(z % 256).toNat, by rw [wrap_u8]; omega, by rw [u8_max]; omega⟩
section
variable {h : AHeap} {Z S : Nat → Prop} {v w : Value} {id : Nat} {gl : List G} {p : Option Addr}
theorem NoB.quiet {h' : AHeap} (n : NoB h p) (q : h.quiet h') : NoB h' p := by
  rcases n with rfl | ⟨id, rfl, hg⟩
  · exact .inl rfl
  · exact .inr ⟨id, rfl, (q.2 _ (AHeap.lt_of_alive h (by rw [hg]; simp))).trans hg⟩
theorem nok_ok (n : NoB h p) : Does Try.prog 38 #[.pointer p] h (fun u h' => u = .bool false ∧ h' = h) := by
  refine spec_go mixed Try.func38 rfl Try.results38 (n := Try.f38.ntmps) (by kernel_rfl) (by simp) ?_
  rcases n with rfl | ⟨id, rfl, hg⟩
  · simp only [go_sem, simprocAttr]
  · simp only [go_sem, simprocAttr, hg]
theorem nfind_ok (n : NoB h p) {i : Int} : Does Try.prog 40 #[.pointer p, .int .i64 i] h (fun u h' => u = .int .i64 2 ∧ h' = h) := by
  refine spec_go mixed Try.func40 rfl Try.results40 (n := Try.f40.ntmps) (by kernel_rfl) (by simp) ?_
  simp only [go_sem, simprocAttr]
  refine cl_spec (nok_ok n) (fun _ _ _ hc => absurd hc (by decide +kernel)) ?_
  rintro u k ⟨rfl, rfl⟩
  simp only [go_sem, simprocAttr]
theorem nTake_ok (n : NoB h p) {i : Int} : Does Try.prog 18 #[.pointer p, .int .i64 i] h (fun u h' => u = .tuple #[.slice none 0 0, .bool false, .int .i64 2] ∧ h' = h) := by
  refine spec_go mixed Try.func18 rfl Try.results18 (n := Try.f18.ntmps) (by kernel_rfl) (by simp) ?_
  simp only [go_sem, simprocAttr]
  refine cl_spec (nfind_ok n) (fun _ _ _ hc => absurd hc (by decide +kernel)) ?_
  rintro u k ⟨rfl, rfl⟩
  simp only [go_sem, simprocAttr]
theorem nTwice_ok (n : NoB h p) {i : Int} : Does Try.prog 16 #[.pointer p, .int .i64 i] h (fun u h' => u = .int .i64 2 ∧ h' = h) := by
  refine spec_go mixed Try.func16 rfl Try.results16 (n := Try.f16.ntmps) (by kernel_rfl) (by simp) ?_
  simp only [go_sem, simprocAttr]
  refine cl_spec (nfind_ok n) (fun _ _ _ hc => absurd hc (by decide +kernel)) ?_
  rintro u k ⟨rfl, rfl⟩
  simp only [go_sem, simprocAttr]
theorem nTurn_ok (n : NoB h p) {i y : Int} {b : Int} : Does Try.prog 17 #[.pointer p, .int .i64 i, .int .i64 y, .int .u8 b] h (fun u h' => u = .int .i64 2 ∧ h' = h) := by
  refine spec_go mixed Try.func17 rfl Try.results17 (n := Try.f17.ntmps) (by kernel_rfl) (by simp) ?_
  simp only [go_sem, simprocAttr]
  refine cl_spec (nfind_ok n) (fun _ _ _ hc => absurd hc (by decide +kernel)) ?_
  rintro u k ⟨rfl, rfl⟩
  simp only [go_sem, simprocAttr]
theorem nPut_ok (n : NoB h p) {a : Option Addr} {m c : Nat} : Does Try.prog 15 #[.pointer p, .slice a m c] h (fun u h' => u = .int .i64 0 ∧ h' = h) := by
  refine spec_go mixed Try.func15 rfl Try.results15 (n := Try.f15.ntmps) (by kernel_rfl) (by simp) ?_
  simp only [go_sem, simprocAttr]
  refine cl_spec (nok_ok n) (fun _ _ _ hc => absurd hc (by decide +kernel)) ?_
  rintro u k ⟨rfl, rfl⟩
  simp only [go_sem, simprocAttr]
theorem nSize_ok (n : NoB h p) : Does Try.prog 23 #[.pointer p] h (fun u h' => u = .int .i64 0 ∧ h' = h) := by
  refine spec_go mixed Try.func23 rfl Try.results23 (n := Try.f23.ntmps) (by kernel_rfl) (by simp) ?_
  simp only [go_sem, simprocAttr]
  refine cl_spec (nok_ok n) (fun _ _ _ hc => absurd hc (by decide +kernel)) ?_
  rintro u k ⟨rfl, rfl⟩
  simp only [go_sem, simprocAttr]
/-- A byte of one's own is written over. -/
theorem GB.set {bs : List Nat} (g : GB Z h bs v) {i : Nat} (hi : i < bs.length) : ∃ ob x, v = .slice (some ⟨ob, 0, some 1⟩) bs.length bs.length ∧ blkN v = some ob ∧ h.get ob = .cells (bs.map fun n => .int .u8 (n : Nat)) (.tail 1) ∧ (bs.map fun n => Value.int .u8 ((n : Nat) : Int))[i]? = some (.int .u8 (x : Nat)) ∧ i + 1 ≤ (bs.map fun n => Value.int .u8 ((n : Nat) : Int)).length ∧
    ∀ y : Nat, (y : Int) ≤ IntKind.u8.max → GB Z (h.set ob (.cells ((bs.map fun n => Value.int .u8 ((n : Nat) : Int)).set i (.int .u8 (y : Nat))) (.tail 1))) (bs.set i y) v ∧ Fw (fun j => blkN v = some j) h (h.set ob (.cells ((bs.map fun n => Value.int .u8 ((n : Nat) : Int)).set i (.int .u8 (y : Nat))) (.tail 1))) := by
  obtain ⟨a, rfl, h1, h2, h3, h4⟩ := g
  obtain ⟨ob, rfl, k1, k2⟩ := h4 (fun e => by subst e; simp at hi)
  have hb : blkN (.slice (some ⟨ob, 0, some 1⟩) bs.length bs.length) = some ob := by
    show (if bs.length = 0 then none else some ob) = _
    rw [if_neg (by omega)]
  have hlt := AHeap.lt_of_alive h (i := ob) (by rw [k2]; simp)
  refine ⟨ob, bs[i], rfl, hb, k2, by rw [List.getElem?_map, List.getElem?_eq_getElem hi]; rfl, by simp; omega, fun y hy => ⟨⟨_, by simp, by simpa using h1, fun x hx => ?_, h3, fun _ => ⟨ob, rfl, k1, ?_⟩⟩, ?_⟩⟩
  · rcases List.mem_or_eq_of_mem_set hx with hx | rfl
    · exact h2 x hx
    · rw [u8_max] at hy; omega
  · rw [AHeap.get_set_self _ _ hlt, List.map_set]
  · rw [hb]; exact (Fw.set (id := ob) _).mono fun j _ e => by rw [e]
theorem nobody_law {a : NAct} {av : Option Addr} {an ac : Nat} {x : List Nat} (hx : Bytes (· < h.next) h x v) (hn : x.length ≤ 1048576) : Does Try.prog 7 #[.agg (a.cs (.slice av an ac)).toArray, v] h (fun u _ => u = .bool true) := by
  obtain ⟨ax, cx, rfl⟩ := hx.shape
  refine spec_go mixed Try.func7 rfl Try.results7 (n := Try.f7.ntmps) (by kernel_rfl) (by simp) ?_
  simp only [go_sem, simprocAttr, NAct.cs]
  have g0 : (((h.push (.cells (a.cs (.slice av an ac)) .rw)).push (.cells [.bool false, .slice none 0 0] .rw)).push (.cells [.pointer none, .pointer (some ⟨h.next + 1, 0, none⟩)] .rw)).get h.next = .cells [.int .u8 (a.kd : Nat), .int .i64 a.i, .int .i64 a.at_, .int .u8 (a.by_ : Nat), .slice av an ac] .rw := by simp only [go_sem, simprocAttr]; rfl
  have g1 : (((h.push (.cells (a.cs (.slice av an ac)) .rw)).push (.cells [.bool false, .slice none 0 0] .rw)).push (.cells [.pointer none, .pointer (some ⟨h.next + 1, 0, none⟩)] .rw)).get (h.next + 1) = .cells [.bool false, .slice none 0 0] .rw := by simp only [go_sem, simprocAttr]
  have g2 : (((h.push (.cells (a.cs (.slice av an ac)) .rw)).push (.cells [.bool false, .slice none 0 0] .rw)).push (.cells [.pointer none, .pointer (some ⟨h.next + 1, 0, none⟩)] .rw)).get (h.next + 2) = .cells [.pointer none, .pointer (some ⟨h.next + 1, 0, none⟩)] .rw := by simp only [go_sem, simprocAttr]
  have q0 : h.quiet (((h.push (.cells (a.cs (.slice av an ac)) .rw)).push (.cells [.bool false, .slice none 0 0] .rw)).push (.cells [.pointer none, .pointer (some ⟨h.next + 1, 0, none⟩)] .rw)) := by simp only [go_sem, simprocAttr]
  simp only [NAct.cs] at g0 g1 g2 q0
  generalize ((h.push (.cells [.int .u8 (a.kd : Nat), .int .i64 a.i, .int .i64 a.at_, .int .u8 (a.by_ : Nat), .slice av an ac] .rw)).push (.cells [.bool false, .slice none 0 0] .rw)).push (.cells [.pointer none, .pointer (some ⟨h.next + 1, 0, none⟩)] .rw) = k0 at g0 g1 g2 q0
  refine go_cutb (fun ρ k => h.quiet k ∧ ρ 1 = .slice ax x.length cx) ?_ ?_
  · refine go_loop (fun z ρ k => ∃ i : Nat, i ≤ 2 ∧ z = 2 - i ∧ k0.quiet k ∧ ρ 1 = .slice ax x.length cx ∧ ρ 2 = .pointer (some ⟨h.next, 0, none⟩) ∧ ρ 23 = .slice (some ⟨h.next + 2, 0, none⟩) 2 2 ∧ ρ 24 = .int .i64 2 ∧ ρ 25 = .int .i64 i) 2 ⟨0, by omega, by omega, .refl _, by simp only [go_sem, simprocAttr]⟩ ?_
    rintro z ρ k ⟨i, hi, rfl, q, r1, r2, r23, r24, r25⟩
    have e0 := (q.2 _ (AHeap.lt_of_alive k0 (by rw [g0]; simp))).trans g0
    have e1 := (q.2 _ (AHeap.lt_of_alive k0 (by rw [g1]; simp))).trans g1
    have e2 := (q.2 _ (AHeap.lt_of_alive k0 (by rw [g2]; simp))).trans g2
    simp only [go_sem, simprocAttr, r1, r2, r23, r24, r25]
    refine cnd_decide (fun hy => ?_) (fun hy => ?_)
    · have e9 : IntKind.i64.wrap ((i : Int) + 1) = ((i + 1 : Nat) : Int) := by rw [wi64] <;> omega
      obtain ⟨p, hp, hno⟩ : ∃ p, ([.pointer none, .pointer (some ⟨h.next + 1, 0, none⟩)] : List Value)[i]? = some (.pointer p) ∧ NoB k p := by
        have : i = 0 ∨ i = 1 := by omega
        rcases this with rfl | rfl
        · exact ⟨none, rfl, .inl rfl⟩
        · exact ⟨_, rfl, .inr ⟨_, rfl, e1⟩⟩
      generalize ([.pointer none, .pointer (some ⟨h.next + 1, 0, none⟩)] : List Value) = cl at e2 hp
      simp only [go_sem, simprocAttr, r1, r2, r23, r24, r25, hy, e2, hp, e0]
      refine cl_spec (nTake_ok hno) (fun _ _ _ hc => absurd hc (by decide +kernel)) ?_
      rintro u k ⟨rfl, rfl⟩
      simp only [go_sem, simprocAttr, r1, r2, r23, r24, r25]
      have qp : k.quiet (k.push (.cells [.slice ax x.length cx] .rw)) := .push _ _
      have hno2 := hno.quiet qp
      have e0' := (qp.2 _ (AHeap.lt_of_alive k (by rw [e0]; simp))).trans e0
      generalize k.push (.cells [.slice ax x.length cx] .rw) = k2 at qp hno2 e0'
      refine cl_spec (nPut_ok hno2) (fun _ _ _ hc => absurd hc (by decide +kernel)) ?_
      rintro u k ⟨rfl, rfl⟩
      simp only [go_sem, simprocAttr, r1, r2, r23, r24, r25, e0']
      refine cl_spec (nTwice_ok hno2) (fun _ _ _ hc => absurd hc (by decide +kernel)) ?_
      rintro u k ⟨rfl, rfl⟩
      simp only [go_sem, simprocAttr, r1, r2, r23, r24, r25, e0']
      refine cl_spec (nTurn_ok hno2) (fun _ _ _ hc => absurd hc (by decide +kernel)) ?_
      rintro u k ⟨rfl, rfl⟩
      simp only [go_sem, simprocAttr, r1, r2, r23, r24, r25, e0']
      refine cl_spec (nSize_ok hno2) (fun _ _ _ hc => absurd hc (by decide +kernel)) ?_
      rintro u k ⟨rfl, rfl⟩
      simp only [go_sem, simprocAttr, r1, r2, r23, r24, r25, e9]
      exact Hold.mk ⟨2 - (i + 1), by omega, i + 1, by omega, rfl, q.trans qp, by simp only [go_sem, simprocAttr, r1, r2, r23, r24]⟩
    · simp only [go_sem, simprocAttr]
      exact Hold.mk ⟨q0.trans q, r1⟩
  · rintro ρ k ⟨q, r1⟩
    clear g0 g1 g2 q0
    simp only [go_sem, simprocAttr, r1]
    refine cl_spec new_bag (fun u h' hp _ => hp.2.1) ?_
    rintro u k1 ⟨rfl, q1, b1⟩
    have b1 := b1.bound
    have hx1 := hx.quiet (q.trans q1)
    simp only [go_sem, simprocAttr, r1]
    obtain ⟨v2, k2, e2, hl2, hf2, hn2⟩ := (Lst.nil rB k1.next (fun _ => False) k1).app (ys := x) 1 rfl (bytes := 1) (n := x.length) (nat_all2 (fun n hn => by have := hx.vals rfl n hn; exact this)) rfl (by simp; omega) (by simp; omega) (Nat.le_refl _)
    rw [nat_flat] at e2
    have q2 : k1.quiet k2 := hf2.quiet (fun j _ h => by cases h)
    have hown : GB (fun j => k1.next ≤ j ∧ j < k2.next) k2 x v2 := (Lst.gb (Z := (k1.next ≤ ·)) (by simpa using hl2) (fun j hj => hj)).mono fun j hj hl _ => ⟨⟨hj, hl⟩, rfl⟩
    obtain ⟨a2, hv2⟩ := hown.len
    subst hv2
    simp only [go_sem, simprocAttr, r1, hx1.acellsN, e2]
    have qp : k2.quiet (k2.push (.cells [.slice a2 x.length x.length] .rw)) := .push _ _
    refine cl_spec (bPut_ok (b1.quiet q2 |>.quiet qp) (one' hown.isSl) (fun j hj hz => by rcases hj with ⟨⟨hj, _⟩, _⟩ | hj <;> (have := q2.1; omega)) (fun y hy => by simp at hy; subst hy; omega)) (fun _ _ _ hc => absurd hc (by decide +kernel)) ?_
    rintro u k3 ⟨rfl, ⟨gl1, b3, hg1⟩, f3⟩
    obtain ⟨g1, rfl, hb1, hs1⟩ : ∃ g1, gl1 = [g1] ∧ g1.bs = x ∧ g1.sp = false := by
      have e : gl1.map (fun g => (g.bs, g.sp)) = [(x, false)] := hg1
      cases gl1 with
      | nil => cases e
      | cons g gl =>
        cases gl with
        | nil => simp only [List.map_cons, List.map_nil, List.cons.injEq, Prod.mk.injEq, and_true] at e; exact ⟨g, rfl, e.1, e.2⟩
        | cons g' gl => simp at e
    have hkp : k2.next ≤ (k2.push (.cells [.slice a2 x.length x.length] .rw)).next := qp.1
    have n1 := q1.1
    have n2 := q2.1
    have nq := q.1
    have n3 := f3.1
    have b3 : BagAt (fun j => (k.next ≤ j ∧ j < k1.next) ∨ k2.next ≤ j) k3 k.next ([] ++ [g1]) := b3.mono fun j hj _ => ⟨by rcases hj with hj | hj; exact .inl hj; exact .inr (Nat.le_trans hkp hj), rfl⟩
    have hown3 : GB (fun j => k1.next ≤ j ∧ j < k2.next) k3 x (.slice a2 x.length x.length) := hown.mono fun j hj hl _ => ⟨hj, (f3.2 j (by omega) (by omega)).trans (qp.2 j hl)⟩
    have hx3 := ((hx1.quiet q2).quiet qp).fr f3 (fun j hj _ e => by omega)
    simp only [go_sem, simprocAttr, r1]
    refine cl_spec (bTwice_ok (i := 0) b3 (fun g hg => by have e : g = g1 := by simpa using hg
                                                          rw [e, hb1]; omega)) (fun _ _ _ hc => absurd hc (by decide +kernel)) ?_
    rintro u k4 ⟨f4, hp4⟩
    rw [if_neg (by simp), if_neg (by simp)] at hp4
    obtain ⟨rfl, g, hg, xv, b4⟩ := hp4
    obtain rfl : g1 = g := by simpa using hg
    have n4 := f4.1
    have b4 : BagAt (fun j => (k.next ≤ j ∧ j < k1.next) ∨ k2.next ≤ j) k4 k.next [g1, ⟨xv, g1.bs, g1.sp⟩] := b4.mono fun j hj _ => ⟨by rcases hj with hj | hj; exact hj; exact .inr (by omega), rfl⟩
    have hown4 : GB (fun j => k1.next ≤ j ∧ j < k2.next) k4 x (.slice a2 x.length x.length) := hown3.mono fun j hj hl _ => ⟨hj, f4.2 j (by omega) (by omega)⟩
    have hx4 := hx3.fr f4 (fun j hj _ e => by omega)
    simp only [go_sem, simprocAttr, r1]
    clear e2
    refine go_cutb (fun ρ k' => BagAt (fun j => (k.next ≤ j ∧ j < k1.next) ∨ k2.next ≤ j) k' k.next [g1, ⟨xv, g1.bs, g1.sp⟩] ∧ Bytes (· < h.next) k' x (.slice ax x.length cx) ∧ ρ 1 = .slice ax x.length cx ∧ ρ 10 = .pointer (some ⟨k.next, 0, none⟩)) ?_ ?_
    · refine go_loop (fun m ρ k' => ∃ (i : Nat) (xs : List Nat), i ≤ x.length ∧ m = x.length - i ∧ xs.length = x.length ∧ GB (fun j => k1.next ≤ j ∧ j < k2.next) k' xs (.slice a2 x.length x.length) ∧ BagAt (fun j => (k.next ≤ j ∧ j < k1.next) ∨ k2.next ≤ j) k' k.next [g1, ⟨xv, g1.bs, g1.sp⟩] ∧ Bytes (· < h.next) k' x (.slice ax x.length cx) ∧
        ρ 1 = .slice ax x.length cx ∧ ρ 10 = .pointer (some ⟨k.next, 0, none⟩) ∧ ρ 11 = .slice a2 x.length x.length ∧ ρ 90 = .int .i64 x.length ∧ ρ 91 = .int .i64 i) x.length ⟨0, x, by omega, by omega, rfl, hown4, b4, hx4, by simp only [go_sem, simprocAttr, r1]⟩ ?_
      rintro m ρ k' ⟨i, xs, hi, rfl, hxs, ho, hb, hxk, r1, r10, r11, r90, r91⟩
      simp only [go_sem, simprocAttr, r1, r10, r11, r90, r91]
      refine cnd_decide (fun hy => ?_) (fun hy => ?_)
      · have hi' : i < xs.length := by omega
        obtain ⟨ob, z, e, hbl, hg, hz, hl1, hset⟩ := ho.set hi'
        rw [hxs] at e
        obtain rfl : a2 = some ⟨ob, 0, some 1⟩ := by simpa using e
        have hoz := (ho.lt hbl).2
        have e9 : IntKind.i64.wrap ((i : Int) + 1) = ((i + 1 : Nat) : Int) := by rw [wi64] <;> omega
        obtain ⟨y, ey, hy8⟩ := u8_ex (((BitVec.ofInt 8 (z : Int) ^^^ 255#8).toNat : Nat) : Int)
        obtain ⟨s1, s2⟩ := hset y hy8
        simp only [go_sem, simprocAttr, r1, r10, r11, r90, r91, hy, hg, hz, hl1, e9]
        rw [← ey] at s1 s2
        have hs2 : ∀ j, j < k'.next → j ≠ ob → _ := fun j h1 h2 => s2.2 j h1 (fun e => h2 (by rw [hbl] at e; exact (Option.some.inj e).symm))
        refine Hold.mk ⟨x.length - (i + 1), by omega, i + 1, xs.set i y, by omega, rfl, by simpa using hxs, s1, hb.mono fun j hj hl => ⟨hj, hs2 j hl (by omega)⟩, hxk.mono fun j hj hl => ⟨hj, hs2 j hl (by omega)⟩, by simp only [go_sem, simprocAttr, r1, r10, r11, r90]⟩
      · simp only [go_sem, simprocAttr, r1, r10]
        exact Hold.mk ⟨hb, hxk, r1, r10⟩
    · rintro ρ k5 ⟨b5, hx5, r1, r10⟩
      simp only [go_sem, simprocAttr, r1, r10]
      refine cl_spec (bTake_ok (i := 0) b5) (fun _ _ _ hc => absurd hc (by decide +kernel)) ?_
      rintro u k6 ⟨f6, hp6⟩
      rw [if_neg (by simp)] at hp6
      obtain ⟨g, hg, rfl, b6, hG6⟩ := hp6
      obtain rfl : g1 = g := by simpa using hg
      have hx6 := hx5.fr f6 (fun j hj _ e => by omega)
      obtain ⟨a6, hv6⟩ := hG6.len
      rw [hb1] at hv6
      simp only [go_sem, simprocAttr, hv6, r1]
      have hGx : GB (fun j => (k.next ≤ j ∧ j < k1.next) ∨ k2.next ≤ j) k6 x g1.v := by rw [← hb1]; exact hG6
      have hyb := hGx.isSl
      rw [hv6] at hyb
      refine cl_spec (same_ok (S := fun _ => True) (hx6.weaken fun _ _ => trivial) (hyb.weaken fun _ _ => trivial)) (fun _ _ _ hc => absurd hc (by decide +kernel)) ?_
      rintro u k7 ⟨rfl, rfl⟩
      simp only [go_sem, simprocAttr, eq_self, decide_true]
      have n5 := f6.1
      have b6 : BagAt (fun j => ((k.next ≤ j ∧ j < k1.next) ∨ k2.next ≤ j) ∧ blkN g1.v ≠ some j) k7 k.next [⟨xv, g1.bs, g1.sp⟩] := b6
      refine go_cutb (fun ρ k' => BagAt (fun j => ((k.next ≤ j ∧ j < k1.next) ∨ k2.next ≤ j) ∧ blkN g1.v ≠ some j) k' k.next [⟨xv, g1.bs, g1.sp⟩] ∧ Bytes (· < h.next) k' x (.slice ax x.length cx) ∧ ρ 1 = .slice ax x.length cx ∧ ρ 10 = .pointer (some ⟨k.next, 0, none⟩) ∧ ρ 16 = .bool true) ?_ ?_
      · refine go_loop (fun m ρ k' => ∃ (i : Nat) (xs : List Nat), i ≤ x.length ∧ m = x.length - i ∧ xs.length = x.length ∧ GB (fun j => (k.next ≤ j ∧ j < k1.next) ∨ k2.next ≤ j) k' xs g1.v ∧ BagAt (fun j => ((k.next ≤ j ∧ j < k1.next) ∨ k2.next ≤ j) ∧ blkN g1.v ≠ some j) k' k.next [⟨xv, g1.bs, g1.sp⟩] ∧ Bytes (· < h.next) k' x (.slice ax x.length cx) ∧
          ρ 1 = .slice ax x.length cx ∧ ρ 10 = .pointer (some ⟨k.next, 0, none⟩) ∧ ρ 16 = .bool true ∧ ρ 13 = .slice a6 x.length x.length ∧ ρ 111 = .int .i64 x.length ∧ ρ 112 = .int .i64 i) x.length ⟨0, x, by omega, by omega, rfl, hGx, b6, hx6, by simp only [go_sem, simprocAttr, r1, r10]⟩ ?_
        rintro m ρ k' ⟨i, xs, hi, rfl, hxs, ho, hb, hxk, r1, r10, r16, r11, r90, r91⟩
        simp only [go_sem, simprocAttr, r1, r10, r16, r11, r90, r91]
        refine cnd_decide (fun hy => ?_) (fun hy => ?_)
        · have hi' : i < xs.length := by omega
          obtain ⟨ob, z, e, hbl, hg, hz, hl1, hset⟩ := ho.set hi'
          rw [hv6, hxs] at e
          obtain rfl : a6 = some ⟨ob, 0, some 1⟩ := by simpa using e
          have hoz := (ho.lt hbl).2
          have e9 : IntKind.i64.wrap ((i : Int) + 1) = ((i + 1 : Nat) : Int) := by rw [wi64] <;> omega
          obtain ⟨y, ey, hy8⟩ := u8_ex (((BitVec.ofInt 8 (z : Int) ^^^ 255#8).toNat : Nat) : Int)
          obtain ⟨s1, s2⟩ := hset y hy8
          simp only [go_sem, simprocAttr, r1, r10, r16, r11, r90, r91, hy, hg, hz, hl1, e9]
          rw [← ey] at s1 s2
          have hs2 : ∀ j, j < k'.next → j ≠ ob → _ := fun j h1 h2 => s2.2 j h1 (fun e => h2 (by rw [hbl] at e; exact (Option.some.inj e).symm))
          refine Hold.mk ⟨x.length - (i + 1), by omega, i + 1, xs.set i y, by omega, rfl, by simpa using hxs, s1, hb.mono fun j hj hl => ⟨hj, hs2 j hl (fun e => hj.2 (by rw [e]; exact hbl))⟩, hxk.mono fun j hj hl => ⟨hj, hs2 j hl (by omega)⟩, by simp only [go_sem, simprocAttr, r1, r10, r16, r11, r90]⟩
        · simp only [go_sem, simprocAttr, r1, r10, r16]
          exact Hold.mk ⟨hb, hxk, r1, r10, r16⟩
      · rintro ρ k8 ⟨b8, hx8, r1, r10, r16⟩
        simp only [go_sem, simprocAttr, r1, r10, r16]
        refine cl_spec (bTake_ok (i := 0) b8) (fun _ _ _ hc => absurd hc (by decide +kernel)) ?_
        rintro u k9 ⟨f9, hp9⟩
        rw [if_neg (by simp)] at hp9
        obtain ⟨g, hg, rfl, b9, hG9⟩ := hp9
        obtain rfl : (⟨xv, g1.bs, g1.sp⟩ : G) = g := by simpa using hg
        have hx9 := hx8.fr f9 (fun j hj _ e => by omega)
        obtain ⟨a9, hv9⟩ := hG9.len
        have hzb := hG9.isSl
        dsimp only at hv9 hzb
        rw [hb1] at hv9 hzb
        rw [hv9] at hzb
        simp only [go_sem, simprocAttr, hv9, r1, r16]
        refine cl_spec (same_ok (S := fun _ => True) (hx9.weaken fun _ _ => trivial) (hzb.weaken fun _ _ => trivial)) (fun _ _ _ hc => absurd hc (by decide +kernel)) ?_
        rintro u k7 ⟨rfl, rfl⟩
        simp only [go_sem, simprocAttr, r16, eq_self, decide_true]
        refine cl_spec alive_ok (fun u h' hp _ => hp.2) ?_
        rintro u k5 ⟨rfl, q5⟩
        simp only [go_sem, simprocAttr, eq_self, decide_true]
end
end Go.Proofs.Ytclfemiiibgfdaa
