/- volume: the laws of scripts: what each law's function comes to. -/
import Derived.Test.YtedpfdflolkpeaaGreatDoorVoL
set_option linter.unusedSimpArgs false
set_option linter.unusedVariables false
set_option linter.unnecessarySimpa false
set_option maxRecDepth 100000
namespace Go.Proofs.YtedpfdflolkpeaaGreatDoor
open Go.AM
theorem va_len (a : VAct) (v w : Value) : (a.cs v w).length = 10 := rfl
theorem va_one (m : VAct) (a b : Option Addr) (n c n' c' : Nat) : (m.cs (.slice a n c) (.slice b n' c')).all one = true := rfl
theorem va_take (a : VAct) (v w : Value) : (a.cs v w).take 10 = a.cs v w := rfl
theorem va_put (a : VAct) (v w : Value) : putCells [.int .u8 0, .int .i64 0, .int .i64 0, .int .i64 0, .int .i64 0, .int .i64 0, .int .i64 0, .slice none 0 0, .slice none 0 0, .bool false] 0 (a.cs v w) = a.cs v w := rfl
theorem va_0 (a : VAct) (v w : Value) : (a.cs v w)[0]? = some (.int .u8 (a.kd : Nat)) := rfl
theorem va_1 (a : VAct) (v w : Value) : (a.cs v w)[1]? = some (.int .i64 a.late) := rfl
theorem _root_.Go.AM.IsSl.atV {S : Nat → Prop} {h : AHeap} {xs : List VAct} {a : Option Addr} {n cap : Nat} (hs : IsSl rVAct S h xs (.slice a n cap)) {i : Nat} (hi : i < n) :
    ∃ b off sp c md x v w, a = some ⟨b, off, sp⟩ ∧ S b ∧ h.get b = .cells c md ∧ xs[i]? = some x ∧ Words S h x.op.data v ∧ IsSl .bool S h x.keep w ∧ x.inI ∧ off + i * 10 + 10 ≤ c.length ∧ (c.drop (off + i * 10)).take 10 = x.cs v w := by
  obtain ⟨b, off, sp, c, md, cs, x, h1, h2, h3, h4, h5, h6, h7⟩ := hs.at 10 rfl hi
  obtain ⟨v, w, rfl, h8, h9, h10⟩ := rVAct_iff.1 h5
  exact ⟨b, off, sp, c, md, x, v, w, h1, h2, h3, h4, h9, h10, h8, h6, h7⟩
namespace Pl
/-- Where a piece begins. -/
def bg (n : Int) (k i : Nat) : Int := (i : Int) * n.tdiv k + min (i : Int) (n.tmod k)
theorem new_chain {n : Int} {k : Nat} (h1 : 1 ≤ n) (hk : 0 < k) (hkn : (k : Int) ≤ n) : ∀ (l : List Int) (i : Nat), (∀ x ∈ l, 0 ≤ x ∧ x < 16) → i + l.length ≤ k → chain (bg n k i) (l.mapIdx fun j x => newP n k (i + j) x) (bg n k (i + l.length))
  | [], i, _, _ => rfl
  | x :: l, i, hx, hl => by
    simp only [List.length_cons] at hl
    rw [List.mapIdx_cons]
    have hd : 1 ≤ n.tdiv k := by
      have h3 := Int.mul_tdiv_add_tmod n k
      have h4 : n.tmod k < k := Int.tmod_lt_of_pos _ (by omega)
      rcases Int.lt_or_le (n.tdiv k) 1 with h5 | h5
      · have h6 : (k : Int) * n.tdiv k ≤ 0 := Int.mul_nonpos_of_nonneg_of_nonpos (by omega) (by omega)
        omega
      · exact h5
    have e1 : bg n k (i + 1) = ((i : Int) + 1) * n.tdiv k + min ((i : Int) + 1) (n.tmod k) := by unfold bg; rw [Int.natCast_add]; rfl
    refine ⟨rfl, ?_, hx x (by simp), ?_⟩
    · show bg n k i < ((i + 0 : Nat) + 1 : Int) * n.tdiv k + min (((i + 0 : Nat) : Int) + 1) (n.tmod k)
      rw [Nat.add_zero, Int.add_mul, Int.one_mul]
      unfold bg
      omega
    · have h2 := new_chain h1 hk hkn l (i + 1) (fun y hy => hx y (by simp [hy])) (by omega)
      rw [e1] at h2
      have e2 : (fun (j : Nat) (y : Int) => newP n k (i + (j + 1)) y) = fun j y => newP n k (i + 1 + j) y := by funext j y; congr 1; omega
      rw [e2, List.length_cons, show i + (l.length + 1) = i + 1 + l.length by omega]
      exact h2
theorem new_right {n : Int} {ns : List Int} (h : (SMap.new n ns).2 = 0) : (SMap.new n ns).1.right := by
  unfold SMap.new at *
  by_cases h1 : n < 1 ∨ 1024 < n ∨ ns = [] ∨ ns.any (fun x => !decide (0 ≤ x ∧ x < 16)) = true
  · rw [if_pos h1] at h; cases h
  rw [if_neg h1] at h ⊢
  by_cases h2 : 16 < ns.length ∨ n < ns.length
  · rw [if_pos h2] at h; cases h
  rw [if_neg h2]
  have hpos : 0 < ns.length := List.length_pos_iff.2 fun e => h1 (.inr (.inr (.inl e)))
  have hall : ∀ x ∈ ns, 0 ≤ x ∧ x < 16 := fun x hx => by
    refine Decidable.byContradiction fun e => h1 (.inr (.inr (.inr (List.any_eq_true.2 ⟨x, hx, ?_⟩))))
    simp only [Bool.not_eq_true', decide_eq_false_iff_not]; exact e
  have hc := new_chain (n := n) (k := ns.length) (by omega) hpos (by omega) ns 0 hall (by omega)
  have e0 : bg n ns.length 0 = 0 := by
    unfold bg
    have : 0 ≤ n.tmod ns.length := Int.tmod_nonneg _ (by omega)
    simp; omega
  have en : bg n ns.length (0 + ns.length) = n := by
    unfold bg
    rw [Nat.zero_add]
    have h3 := Int.mul_tdiv_add_tmod n ns.length
    have h4 : n.tmod ns.length < ns.length := Int.tmod_lt_of_pos _ (by omega)
    omega
  rw [e0, en] at hc
  refine ⟨⟨Int.le_refl 1, by dsimp only; omega, by dsimp only; omega, by dsimp only; omega, by simp; omega⟩, ?_⟩
  have e2 : (fun (i : Nat) (x : Int) => newP n ns.length (0 + i) x) = fun i x => newP n ns.length i x := by funext i x; rw [Nat.zero_add]
  rw [e2] at hc
  exact hc
end Pl
/-- A volume of a script: behind so many acts. -/
structure Sc (h : AHeap) (id : Nat) (n : Nat) (ow : Nat → Nat → Nat) (k : AHeap) (v : Vm) : Prop where
  at_ : VAt ow k id v
  good : v.good n
  n30 : v.mp.n = 30
  fr : ∀ j, j < h.next → fr ow j
  q : h.quiet k
  id_ : h.next ≤ id
section
variable {ow ow' ow'' : Nat → Nat → Nat} {h k k' : AHeap} {id n : Nat} {v : Vm} {S : Nat → Prop} {b : Nat}
theorem Sc.quiet (s : Sc h id n ow k v) (q : k.quiet k') : Sc h id n (cutO ow k) k' v :=
  ⟨s.at_.quiet q, s.good, s.n30, fun j hj => fr_cut (s.fr j hj), s.q.trans q, s.id_⟩
theorem Sc.step (s : Sc h id n ow k v) {v' : Vm} {m : Nat} (a : VAt ow' k' id v') (vk : VKs id ow k ow' k') (g : v'.good m) (hn : v'.mp.n = v.mp.n) : Sc h id m ow' k' v' :=
  ⟨a, g, hn.trans s.n30, fun j hj => vk.fr (Nat.lt_of_lt_of_le hj s.q.1) (s.fr j hj), vk.quiet0 s.q fun j hj => ⟨s.fr j hj, by have := s.id_; omega⟩, s.id_⟩
/-- What was handed in stands there. -/
theorem Sc.in_ (s : Sc h id n ow k v) : ∀ j, j < h.next → Proofs.YtedpfdflolkpeaaGreatDoor.fr ow j ∧ k.get j = h.get j := fun j hj => ⟨s.fr j hj, s.q.2 j hj⟩
theorem vshort_ok {l : List VAct} {w : Value} (hl : IsSl rVAct S h l w) : Does Tryz.prog 12 #[w] h (fun u h' => IsSl rVAct S h (l.take 300) u ∧ h' = h) := by
  obtain ⟨a, c, rfl⟩ := hl.shape
  have hlen := hl.len
  refine spec_go mixed Tryz.func12 rfl Tryz.results12 (n := Tryz.f12.ntmps) (by kernel_rfl) (by simp) ?_
  obtain ⟨a5, c5, es, hs⟩ := hl.sliceI 10 rfl (l := 0) (m := min (l.length : Int) 300) (by omega) (by omega) (by omega)
  have e1 : (min (l.length : Int) 300).toNat - ((0 : Int)).toNat = (l.take 300).length := by simp only [List.length_take]; omega
  have e2 : (l.drop ((0 : Int)).toNat).take (l.take 300).length = l.take 300 := by
    rw [show ((0 : Int)).toNat = 0 from rfl, List.drop_zero, List.length_take, List.take_eq_take_iff]; omega
  rw [e1] at es hs
  rw [e2] at hs
  simp only [go_sem, simprocAttr, es]
  exact hs
/-- The start of a law. -/
theorem start_ok {ns : List Int} {w : Value} (hs : Ints S h ns w) : Does Tryz.prog 10 #[.int .i64 30, w] h (fun u h' => h.quiet h' ∧
    ((∃ id ow v, u = .tuple #[.pointer (some ⟨id, 0, none⟩), .int .i64 0] ∧ Sc h id 0 ow h' v) ∨ ∃ e : Int, e ≠ 0 ∧ u = .tuple #[.pointer none, .int .i64 e])) := by
  refine (vNew_ok hs (n := 30) (by unfold inI; omega)).mono ?_
  rintro u h' ⟨q, ⟨he, id, ow, rfl, hid, a, hf⟩ | ⟨he, rfl⟩⟩
  · refine ⟨q, .inl ⟨id, ow, _, rfl, a, ?_, (new_n he).1, hf, q, hid⟩⟩
    exact Vm.new_good (Pl.new_right he)
  · exact ⟨q, .inr ⟨_, he, rfl⟩⟩
/-- What a walk of a script has in hand at an act. -/
theorem Sc.actAt (s : Sc h id n ow k v) {xs : List VAct} {a : Option Addr} {m c : Nat} (hx : IsSl rVAct (· < h.next) h xs (.slice a m c)) {i : Nat} (hi : i < m) :
    ∃ b off sp cc md x d w, a = some ⟨b, off, sp⟩ ∧ k.get b = .cells cc md ∧ xs[i]? = some x ∧ Words (fun j => j < h.next) k x.op.data d ∧ IsSl .bool (fun j => j < h.next) k x.keep w ∧ x.inI ∧ off + i * 10 + 10 ≤ cc.length ∧ (cc.drop (off + i * 10)).take 10 = x.cs d w := by
  have hk := hx.mono (S' := (· < h.next)) (h' := k) fun j hj _ => ⟨hj, s.q.2 j hj⟩
  obtain ⟨b, off, sp, cc, md, x, d, w, h1, _, h3, h4, h5, h6, h7, h8, h9⟩ := hk.atV hi
  exact ⟨b, off, sp, cc, md, x, d, w, h1, h3, h4, h5, h6, h7, h8, h9⟩
theorem Sc.does (s : Sc h id n ow k v) (hb : n + 41 ≤ 1073740000) {x : VAct} {d w : Value} (hx : x.inI) (hd : Words (fun j => j < h.next) k x.op.data d) (hw : IsSl .bool (fun j => j < h.next) k x.keep w) :
    Does Tryz.prog 15 #[.pointer (some ⟨id, 0, none⟩), .agg (x.cs d w).toArray] k (fun u k' => u = .int .i64 (v.act x).1 ∧ ∃ ow', Sc h id (n + 20) ow' k' (v.act x).2 ∧ VKs id ow k ow' k') := by
  refine (does_ok s.at_ s.good hb hx (hd.weaken fun j hj => s.fr j hj) (hw.weaken fun j hj => s.fr j hj)).mono ?_
  rintro u k' ⟨rfl, ow', a', vk⟩
  have := act_good s.good (by omega) hx.2.1
  exact ⟨rfl, ow', s.step a' vk this.1 this.2, vk⟩
theorem Sc.map (s : Sc h id n ow k v) : Does Tryz.prog 13 #[.pointer (some ⟨id, 0, none⟩)] k (fun u k' => ∃ a c, u = Pl.mapV v.mp (.slice a v.mp.ps.length c) ∧ IsSl Pl.rPiece (k.next ≤ ·) k' v.mp.ps (.slice a v.mp.ps.length c) ∧ k.quiet k') := by
  refine (vMap_ok s.at_ s.good.mp).mono ?_
  rintro u k' ⟨w, rfl, hl, q⟩
  obtain ⟨a, c, rfl, _⟩ := hl.len
  exact ⟨a, c, rfl, hl.isSl (fun j e _ => e.elim) fun j e => e, q⟩
/-- All that is shown, read. -/
theorem Sc.read (s : Sc h id n ow k v) {ver : Int} (hv : ver = v.mp.ver) : Does Tryz.prog 14 #[.pointer (some ⟨id, 0, none⟩), .int .i64 ver, .int .i64 0, .int .i64 30] k (fun u k' => ∃ a c, u = .tuple #[.slice a v.shows.length c, .int .i64 0] ∧ Words (k.next ≤ ·) k' v.shows (.slice a v.shows.length c) ∧ k.quiet k') := by
  subst hv
  have e : v.read v.mp.ver 0 30 = (v.shows, 0) := by rw [← s.n30]; exact read_all s.good
  refine (vRead_ok s.at_ s.good (ver := v.mp.ver) (off := 0) (n := 30) (by unfold inJ; omega) (by unfold inJ; omega)).mono ?_
  rw [e]
  rintro u k' ⟨w, rfl, hw, q⟩
  obtain ⟨a, c, rfl⟩ := hw.shape
  exact ⟨a, c, rfl, hw, q⟩
theorem mapsLaw_ok {ns : List Int} {xs : List VAct} {w1 w2 : Value} (hs : Ints (· < h.next) h ns w1) (hx : IsSl rVAct (· < h.next) h xs w2) : Does Tryz.prog 3 #[w1, w2] h (fun u _ => u = .bool true) := by
  obtain ⟨a1, c1, rfl⟩ := hs.shape
  refine spec_go mixed Tryz.func3 rfl Tryz.results3 (n := Tryz.f3.ntmps) (by kernel_rfl) (by simp) ?_
  simp only [go_sem, simprocAttr]
  refine cl_spec (start_ok hs) (fun _ _ _ hc => absurd hc (by decide +kernel)) ?_
  rintro u k ⟨q, ⟨id, ow, v, rfl, sc⟩ | ⟨e, he, rfl⟩⟩
  rotate_left
  · simp only [go_sem, simprocAttr, he]
    refine cl_spec (valive_ok k) (fun _ _ _ hc => absurd hc (by decide +kernel)) ?_
    rintro u k1 ⟨rfl, q1⟩
    simp only [go_sem, simprocAttr]
  simp only [go_sem, simprocAttr]
  refine cl_spec (valive_ok k) (fun _ _ _ hc => absurd hc (by decide +kernel)) ?_
  rintro u k1 ⟨rfl, q1⟩
  have sc1 := sc.quiet q1
  generalize cutO ow k = ow1 at sc1
  simp only [go_sem, simprocAttr]
  refine cl_spec (vshort_ok (hx.mono (S' := (· < h.next)) (h' := k1) fun j hj _ => ⟨hj, sc1.q.2 j hj⟩)) (fun _ _ _ hc => absurd hc (by decide +kernel)) ?_
  rintro u k1' ⟨hx1, rfl⟩
  have hxl : (xs.take 300).length ≤ 300 := by rw [List.length_take]; omega
  have hx2 : IsSl rVAct (· < h.next) h (xs.take 300) u := hx1.mono fun j hj _ => ⟨hj, (sc1.q.2 j hj).symm⟩
  obtain ⟨a2, c2, rfl⟩ := hx2.shape
  generalize xs.take 300 = ys at hx1 hx2 hxl
  simp only [go_sem, simprocAttr]
  refine go_loop (fun z ρ k => ∃ (i : Nat) (ow : Nat → Nat → Nat) (v : Vm), i ≤ ys.length ∧ z = ys.length - i ∧ Sc h id (20 * i) ow k v ∧ ρ 5 = .pointer (some ⟨id, 0, none⟩) ∧ ρ 34 = .slice a2 ys.length c2 ∧ ρ 35 = .int .i64 ys.length ∧ ρ 36 = .int .i64 i) ys.length
    ⟨0, ow1, v, by omega, by omega, sc1, by simp only [go_sem, simprocAttr]⟩ ?_
  rintro z ρ k2 ⟨i, ow2, v2, hi, rfl, s2, r5, r34, r35, r36⟩
  simp only [go_sem, simprocAttr, r5, r34, r35, r36]
  refine cnd_decide (fun hy => ?_) (fun hy => ?_)
  · have h1 : i < ys.length := by omega
    have e36 : IntKind.i64.wrap ((i : Int) + 1) = ((i + 1 : Nat) : Int) := by rw [wi64] <;> omega
    obtain ⟨b0, off, sp, cc, md, x, d, w, hA, hg, hxi, hd, hw, hxI, hle, hdt⟩ := s2.actAt hx2 h1
    subst hA
    obtain ⟨ad, cd, rfl⟩ := hd.shape
    obtain ⟨aw, cw, rfl⟩ := hw.shape
    obtain ⟨r, hr⟩ : ∃ r, x.kd % 10 = r := ⟨_, rfl⟩
    have et : ((x.kd : Nat) : Int).tmod 10 = (r : Int) := by rw [← hr]; rfl
    simp only [go_sem, simprocAttr, r5, r34, r36, h1, hg, hle, hdt, va_len, va_one, va_take, va_put]
    have qp : k2.quiet (k2.push (.cells (x.cs (.slice ad x.op.data.length cd) (.slice aw x.keep.length cw)) .rw)) := .push _ _
    have gp : (k2.push (.cells (x.cs (.slice ad x.op.data.length cd) (.slice aw x.keep.length cw)) .rw)).get k2.next = .cells (x.cs (.slice ad x.op.data.length cd) (.slice aw x.keep.length cw)) .rw := by simp
    have lp : k2.next < (k2.push (.cells (x.cs (.slice ad x.op.data.length cd) (.slice aw x.keep.length cw)) .rw)).next := by simp
    generalize k2.push (.cells (x.cs (.slice ad x.op.data.length cd) (.slice aw x.keep.length cw)) .rw) = k3 at qp gp lp
    refine cl_spec (s2.quiet qp).map (fun _ _ _ hc => absurd hc (by decide +kernel)) ?_
    rintro u k4 ⟨am, cm, rfl, _, q4⟩
    have g4 := (q4.2 _ lp).trans gp
    have l4 := Nat.lt_of_lt_of_le lp q4.1
    simp only [go_sem, simprocAttr, Pl.mapV, r5]
    have qm : k4.quiet (k4.push (.cells [.int .i64 v2.mp.ver, .int .i64 v2.mp.n, .slice am v2.mp.ps.length cm] .rw)) := .push _ _
    have gm : (k4.push (.cells [.int .i64 v2.mp.ver, .int .i64 v2.mp.n, .slice am v2.mp.ps.length cm] .rw)).get k4.next = .cells [.int .i64 v2.mp.ver, .int .i64 v2.mp.n, .slice am v2.mp.ps.length cm] .rw := by simp
    have lm : k4.next < (k4.push (.cells [.int .i64 v2.mp.ver, .int .i64 v2.mp.n, .slice am v2.mp.ps.length cm] .rw)).next := by simp
    generalize k4.push (.cells [.int .i64 v2.mp.ver, .int .i64 v2.mp.n, .slice am v2.mp.ps.length cm] .rw) = k5 at qm gm lm
    have q25 := (qp.trans q4).trans qm
    refine cl_spec ((s2.quiet q25).read rfl) (fun _ _ _ hc => absurd hc (by decide +kernel)) ?_
    rintro u k6 ⟨ax, cx, rfl, hwx, q6⟩
    have g6 := ((qm.trans q6).2 _ l4).trans g4
    have l6 := Nat.lt_of_lt_of_le l4 (qm.trans q6).1
    have gm6 := (q6.2 _ lm).trans gm
    have lm6 := Nat.lt_of_lt_of_le lm q6.1
    have s6 := s2.quiet (q25.trans q6)
    have hid2 := s2.at_.lt
    have fx : fr (cutO ow2 k2) k2.next ∧ k2.next ≠ id := ⟨cutO_ge (Nat.le_refl _), by omega⟩
    have fm : fr (cutO ow2 k2) k4.next ∧ k4.next ≠ id := ⟨cutO_ge (by have := qp.1; have := q4.1; omega), by have := qp.1; have := q4.1; omega⟩
    have hwx6 : Words (fun j => fr (cutO ow2 k2) j ∧ j ≠ id) k6 v2.shows (.slice ax v2.shows.length cx) := hwx.weaken fun j hj => ⟨cutO_ge (by have := q25.1; omega), by have := q25.1; omega⟩
    have hd6 : Words (fun j => j < h.next) k6 x.op.data (.slice ad x.op.data.length cd) := hd.mono fun j hj hl => ⟨hj, (q25.trans q6).2 j hl⟩
    have hw6 : IsSl .bool (fun j => j < h.next) k6 x.keep (.slice aw x.keep.length cw) := hw.mono fun j hj hl => ⟨hj, (q25.trans q6).2 j hl⟩
    generalize cutO ow2 k2 = ow6 at s6 fx fm hwx6
    simp only [go_sem, simprocAttr, r5, g6, va_len, va_take]
    refine cl_spec (s6.does (by omega) hxI hd6 hw6) (fun _ _ _ hc => absurd hc (by decide +kernel)) ?_
    rintro u k7 ⟨rfl, ow7, s7, vk7⟩
    have g7 := (vk7.same _ fx l6).2.trans g6
    have gm7 := (vk7.same _ fm lm6).2.trans gm6
    have hwx7 := hwx6.mono fun j hj hl => vk7.same j hj hl
    have sh := act_shows s2.good (a := x) (by omega)
    simp only [go_sem, simprocAttr, g7, va_0, et]
    by_cases hk1 : (r : Int) < 2
    · simp only [go_sem, simprocAttr, hk1, decide_true, r36, e36]
      exact Hold.mk ⟨ys.length - (i + 1), by omega, i + 1, ow7, _, by omega, rfl, s7, by simp only [go_sem, simprocAttr, r5, r34, r35]⟩
    by_cases hk2 : (4 : Int) < (r : Int)
    · simp only [go_sem, simprocAttr, hk1, hk2, decide_true, decide_false, r36, e36]
      exact Hold.mk ⟨ys.length - (i + 1), by omega, i + 1, ow7, _, by omega, rfl, s7, by simp only [go_sem, simprocAttr, r5, r34, r35]⟩
    obtain ⟨sh1, sh2⟩ := sh (.inr (by omega))
    have hcond : (2 ≤ x.kd % 10 ∧ x.kd % 10 ≤ 4 ∧ (v2.act x).1 = 0) ↔ (v2.act x).1 = 0 := ⟨fun e => e.2.2, fun e => ⟨by omega, by omega, e⟩⟩
    have hver := s2.good.mp.1
    have ewv : IntKind.i64.wrap (v2.mp.ver + 1) = v2.mp.ver + 1 := by rw [wi64] <;> omega
    obtain ⟨v7, hv7⟩ : ∃ v7, (v2.act x).2 = v7 := ⟨_, rfl⟩
    obtain ⟨e7, he7⟩ : ∃ e7, (v2.act x).1 = e7 := ⟨_, rfl⟩
    rw [hv7] at s7 sh1 sh2
    rw [he7] at sh2 hcond
    rw [he7]
    simp only [go_sem, simprocAttr, hk1, hk2, decide_false, gm7]
    have fin : ∀ (ρ' : Env) (nv : Int), nv = v7.mp.ver → True := fun _ _ _ => trivial
    by_cases h0 : e7 = 0
    · rw [if_pos (hcond.2 h0)] at sh2
      simp only [go_sem, simprocAttr, h0, ewv, r5]
      refine cl_spec (s7.read (by rw [sh2])) (fun _ _ _ hc => absurd hc (by decide +kernel)) ?_
      rintro u k8 ⟨ay, cy, rfl, hwy, q8⟩
      simp only [go_sem, simprocAttr]
      refine cl_spec (Words_ok (hwx7.quiet q8) hwy) (fun _ _ _ hc => absurd hc (by decide +kernel)) ?_
      rintro u k9 ⟨rfl, rfl⟩
      rw [decide_eq_true sh1.symm]
      simp only [go_sem, simprocAttr, r5]
      refine cl_spec (s7.quiet q8).map (fun _ _ _ hc => absurd hc (by decide +kernel)) ?_
      rintro u k10 ⟨an, cn, rfl, _, q10⟩
      simp only [go_sem, simprocAttr, Pl.mapV, sh2, r36, e36]
      exact Hold.mk ⟨ys.length - (i + 1), by omega, i + 1, _, _, by omega, rfl, s7.quiet (q8.trans q10), by simp only [go_sem, simprocAttr, r5, r34, r35]⟩
    · rw [if_neg (fun e => h0 (hcond.1 e))] at sh2
      simp only [go_sem, simprocAttr, h0, r5]
      refine cl_spec (s7.read (by rw [sh2]; omega)) (fun _ _ _ hc => absurd hc (by decide +kernel)) ?_
      rintro u k8 ⟨ay, cy, rfl, hwy, q8⟩
      simp only [go_sem, simprocAttr]
      refine cl_spec (Words_ok (hwx7.quiet q8) hwy) (fun _ _ _ hc => absurd hc (by decide +kernel)) ?_
      rintro u k9 ⟨rfl, rfl⟩
      rw [decide_eq_true sh1.symm]
      simp only [go_sem, simprocAttr, r5]
      refine cl_spec (s7.quiet q8).map (fun _ _ _ hc => absurd hc (by decide +kernel)) ?_
      rintro u k10 ⟨an, cn, rfl, _, q10⟩
      have sh3 : v7.mp.ver = v2.mp.ver := by omega
      simp only [go_sem, simprocAttr, Pl.mapV, sh3, r36, e36]
      exact Hold.mk ⟨ys.length - (i + 1), by omega, i + 1, _, _, by omega, rfl, s7.quiet (q8.trans q10), by simp only [go_sem, simprocAttr, r5, r34, r35]⟩
  · simp only [go_sem, simprocAttr]
end
end Go.Proofs.YtedpfdflolkpeaaGreatDoor
