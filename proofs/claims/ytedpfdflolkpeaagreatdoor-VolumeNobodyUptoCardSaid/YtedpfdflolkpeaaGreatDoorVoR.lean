/- volume: the law Once. -/
import Derived.Test.YtedpfdflolkpeaaGreatDoorVoQ
set_option linter.unusedSimpArgs false
set_option linter.unusedVariables false
set_option linter.unnecessarySimpa false
set_option maxRecDepth 100000
namespace Go.Proofs.YtedpfdflolkpeaaGreatDoor
open Go.AM
section
variable {ow ow' ow'' : Nat → Nat → Nat} {h k k' : AHeap} {id n : Nat} {v : Vm} {S : Nat → Prop} {b : Nat}
theorem onceLaw_ok {ns : List Int} {xs : List VAct} {w1 w2 w3 : Value} {o : Pl.Op} (hs : Ints (· < h.next) h ns w1) (hx : IsSl rVAct (· < h.next) h xs w2) (ho : o.ok) (hd : Words (· < h.next) h o.data w3) : Does Tryz.prog 6 #[w1, w2, Pl.opV o w3] h (fun u _ => u = .bool true) := by
  obtain ⟨a1, c1, rfl⟩ := hs.shape
  obtain ⟨a3, c3, rfl⟩ := hd.shape
  refine spec_go mixed Tryz.func6 rfl Tryz.results6 (n := Tryz.f6.ntmps) (by kernel_rfl) (by simp) ?_
  simp only [go_sem, simprocAttr, Pl.opV]
  refine cl_gen fun h0 eh => ?_
  have qh : h.quiet h0 := by rw [eh]; simp only [go_sem, simprocAttr]
  have gh : h0.get h.next = .cells [.int .i64 o.kind, .int .i64 o.off, .int .i64 o.len, .slice a3 o.data.length c3] .rw := by rw [eh]; simp only [go_sem, simprocAttr]
  have lh : h.next < h0.next := by rw [eh]; simp
  clear eh
  have hs0 : Ints (· < h0.next) h0 ns (.slice a1 ns.length c1) := hs.mono fun j hj hl => ⟨Nat.lt_of_lt_of_le hj qh.1, qh.2 j hl⟩
  have hx0 : IsSl rVAct (· < h0.next) h0 xs w2 := hx.mono fun j hj hl => ⟨Nat.lt_of_lt_of_le hj qh.1, qh.2 j hl⟩
  have hd0 : Words (· < h0.next) h0 o.data (.slice a3 o.data.length c3) := hd.mono fun j hj hl => ⟨Nat.lt_of_lt_of_le hj qh.1, qh.2 j hl⟩
  refine cl_spec (start_ok hs0) (fun _ _ _ hc => absurd hc (by decide +kernel)) ?_
  rintro u k ⟨q, ⟨id, ow, v, rfl, sc⟩ | ⟨e, he, rfl⟩⟩
  rotate_left
  · simp only [go_sem, simprocAttr, he]
    refine cl_spec (valive_ok k) (fun _ _ _ hc => absurd hc (by decide +kernel)) ?_
    rintro u k1 ⟨rfl, q1⟩
    simp only [go_sem, simprocAttr]
  simp only [go_sem, simprocAttr]
  refine cl_spec (valive_ok k) (fun _ _ _ hc => absurd hc (by decide +kernel)) ?_
  rintro u k1 ⟨rfl, q1⟩
  have sc1 := sc.quiet q1
  generalize cutO ow k = ow1 at sc1
  simp only [go_sem, simprocAttr]
  refine cl_spec (vshort_ok (hx0.mono (S' := (· < h0.next)) (h' := k1) fun j hj _ => ⟨hj, sc1.q.2 j hj⟩)) (fun _ _ _ hc => absurd hc (by decide +kernel)) ?_
  rintro u k1' ⟨hx1, rfl⟩
  have hxl : (xs.take 300).length ≤ 300 := by rw [List.length_take]; omega
  have hx2 : IsSl rVAct (· < h0.next) h0 (xs.take 300) u := hx1.mono fun j hj _ => ⟨hj, (sc1.q.2 j hj).symm⟩
  obtain ⟨a2, c2, rfl⟩ := hx2.shape
  generalize xs.take 300 = ys at hx1 hx2 hxl
  simp only [go_sem, simprocAttr]
  refine go_cutb (fun ρ k => ∃ (ow : Nat → Nat → Nat) (v : Vm), Sc h0 id 6000 ow k v ∧ ρ 7 = .pointer (some ⟨id, 0, none⟩) ∧ ρ 5 = .pointer (some ⟨h.next, 0, none⟩)) ?_ ?_
  · refine go_loop (fun z ρ k => ∃ (i : Nat) (ow : Nat → Nat → Nat) (v : Vm), i ≤ ys.length ∧ z = ys.length - i ∧ Sc h0 id (20 * i) ow k v ∧ ρ 7 = .pointer (some ⟨id, 0, none⟩) ∧ ρ 34 = .slice a2 ys.length c2 ∧ ρ 35 = .int .i64 ys.length ∧ ρ 36 = .int .i64 i ∧ ρ 5 = .pointer (some ⟨h.next, 0, none⟩)) ys.length
      ⟨0, ow1, v, by omega, by omega, sc1, by simp only [go_sem, simprocAttr]⟩ ?_
    rintro z ρ k2 ⟨i, ow2, v2, hi, rfl, s2, rp, ra, rb, rc, rk⟩
    simp only [go_sem, simprocAttr, rp, ra, rb, rc, rk]
    refine cnd_decide (fun hy => ?_) (fun hy => ?_)
    · have h1 : i < ys.length := by omega
      have e36 : IntKind.i64.wrap ((i : Int) + 1) = ((i + 1 : Nat) : Int) := by rw [wi64] <;> omega
      obtain ⟨b0, off, sp, cc, md, x, d, w, hA, hg, hxi, hd, hw, hxI, hle, hdt⟩ := s2.actAt hx2 h1
      subst hA
      obtain ⟨ad, cd, rfl⟩ := hd.shape
      obtain ⟨aw, cw, rfl⟩ := hw.shape
      simp only [go_sem, simprocAttr, rp, ra, rc, h1, hg, hle, hdt, va_len, va_one, va_take, va_put]
      have qp : k2.quiet (k2.push (.cells (x.cs (.slice ad x.op.data.length cd) (.slice aw x.keep.length cw)) .rw)) := .push _ _
      refine cl_spec ((s2.quiet qp).does (by omega) hxI (hd.mono fun j hj hl => ⟨hj, qp.2 j hl⟩) (hw.mono fun j hj hl => ⟨hj, qp.2 j hl⟩)) (fun _ _ _ hc => absurd hc (by decide +kernel)) ?_
      rintro u k7 ⟨rfl, ow7, s7, vk7⟩
      simp only [go_sem, simprocAttr, rc, e36]
      exact Hold.mk ⟨ys.length - (i + 1), by omega, i + 1, ow7, _, by omega, rfl, s7, by simp only [go_sem, simprocAttr, rp, ra, rb, rk]⟩
    · simp only [go_sem, simprocAttr]
      exact Hold.mk ⟨ow2, v2, s2.more (by omega), by simp only [go_sem, simprocAttr, rp, rk]⟩
  · rintro ρ k2 ⟨ow2, v2, s2, rp, rk⟩
    simp only [go_sem, simprocAttr, rp, rk]
    refine cl_spec s2.map (fun _ _ _ hc => absurd hc (by decide +kernel)) ?_
    rintro u k4 ⟨am, cm, rfl, _, q4⟩
    simp only [go_sem, simprocAttr, Pl.mapV, rp]
    refine cl_spec ((s2.quiet q4).read rfl) (fun _ _ _ hc => absurd hc (by decide +kernel)) ?_
    rintro u k5 ⟨ax, cx, rfl, hwx, q5⟩
    have s5 := s2.quiet (q4.trans q5)
    have hid5 := s2.at_.lt
    have hwx5 : Words (fun j => fr (cutO ow2 k2) j ∧ j ≠ id) k5 v2.shows (.slice ax v2.shows.length cx) := hwx.weaken fun j hj => ⟨cutO_ge (by have := q4.1; omega), by have := q4.1; omega⟩
    generalize cutO ow2 k2 = ow5 at s5 hwx5
    simp only [go_sem, simprocAttr, rp]
    refine cl_spec s5.map (fun u h' hp _ => by obtain ⟨_, _, _, _, q⟩ := hp; exact q) ?_
    rintro u k6 ⟨an, cn, rfl, _, q6⟩
    have s6 := s5.quiet q6
    have hwx6 : Words (fun j => fr (cutO ow5 k5) j ∧ j ≠ id) k6 v2.shows (.slice ax v2.shows.length cx) := hwx5.mono fun j hj hl => ⟨⟨fr_cut hj.1, hj.2⟩, q6.2 j hl⟩
    generalize cutO ow5 k5 = ow6 at s6 hwx6
    have g6 := (s6.q.2 _ lh).trans gh
    have hd6 : Words (fr ow6) k6 o.data (.slice a3 o.data.length c3) := hd0.mono fun j hj hl => ⟨s6.fr j hj, s6.q.2 j hl⟩
    simp only [go_sem, simprocAttr, Pl.mapV, rp, rk, g6]
    have hdo := vDo_ok s6.at_ s6.good (by decide) (ver := v2.mp.ver) (o := o) hd6
    unfold Pl.opV at hdo
    refine cl_spec hdo (fun _ _ _ hc => absurd hc (by decide +kernel)) ?_
    rintro u k7 ⟨rfl, ow7, a7, vk7⟩
    have dg := do_good s6.good (by decide) v2.mp.ver o
    have s7 := s6.step a7 vk7 dg.1 (by rw [dg.2])
    have hwx7 := hwx6.mono fun j hj hl => vk7.same j hj hl
    by_cases he0 : (v2.do v2.mp.ver o).1 = 0
    rotate_left
    · simp only [go_sem, simprocAttr, he0]
    obtain ⟨hfit, hsh⟩ := do_shows s6.good (by decide) he0
    generalize (v2.do v2.mp.ver o).2 = v7 at s7 hsh
    have g7 := (s7.q.2 _ lh).trans gh
    have hd7 : Words (fun _ => True) k7 o.data (.slice a3 o.data.length c3) := hd0.mono fun j hj hl => ⟨trivial, s7.q.2 j hl⟩
    simp only [go_sem, simprocAttr, he0, rp, rk, g7]
    have qb : k7.quiet (k7.push (.cells [.int .i64 o.kind, .int .i64 o.off, .int .i64 o.len, .slice a3 o.data.length c3] .rw)) := .push _ _
    have hos : IsSl rBop (fun _ => True) (k7.push (.cells [.int .i64 o.kind, .int .i64 o.off, .int .i64 o.len, .slice a3 o.data.length c3] .rw)) [o.b] (.slice (some ⟨k7.next, 0, none⟩) 1 1) :=
      ⟨_, 1, [o.b.cs (.slice a3 o.data.length c3)], rfl, Nat.le_refl _, (show 1 ≤ 9223372036854775807 by decide), (fun e => by cases e), (fun ad e => by cases e; exact .inl rfl), .cons (rBop_iff.2 ⟨_, rfl, ho, hd7.quiet qb⟩) .nil, fun _ => ⟨_, _, _, rfl, trivial, AHeap.get_push_self _ _, Nat.le_refl 4, rfl⟩⟩
    refine cl_spec (rApply_ok (hwx7.quiet qb) hos) (fun _ _ _ hc => absurd hc (by decide +kernel)) ?_
    rintro u k8 ⟨q8, w8, rfl, hl8⟩
    have hsl : v2.shows.length = 30 := by rw [v2.shows_len, s6.n30]; rfl
    have hap : applyV v2.shows [o.b] = (v7.shows, 0) := by
      unfold applyV
      rw [if_pos (by omega), if_pos]
      · rw [hsh]; rfl
      · intro y hy
        obtain rfl := List.mem_singleton.1 hy
        rw [hsl]
        have := s6.n30
        rw [this] at hfit; exact hfit
    rw [hap] at hl8 ⊢
    obtain ⟨a8, c8, rfl, _⟩ := hl8.len
    have q78 := qb.trans q8
    have s8 := s7.quiet q78
    have hid8 := s7.at_.lt
    have hw8 : Words (fun j => fr (cutO ow7 k7) j ∧ j ≠ id) k8 v7.shows (.slice a8 v7.shows.length c8) := (hl8.isSl (S := (k7.next ≤ ·)) (fun j e _ => e.elim) fun j e => Nat.le_trans qb.1 e).weaken fun j hj => ⟨cutO_ge hj, by omega⟩
    have g8 := (s8.q.2 _ lh).trans gh
    generalize cutO ow7 k7 = ow8 at s8 hw8
    simp only [go_sem, simprocAttr, rp, rk, g8]
    refine cl_spec (vMove_ok s8.at_ s8.good (by decide)) (fun _ _ _ hc => absurd hc (by decide +kernel)) ?_
    rintro u k9 ⟨rfl, ow9, a9, vk9⟩
    have ml := move_like s8.good (by decide) o.off 15
    have s9 := s8.step a9 vk9 ml.1 ml.2.2.1
    have sh9 := ml.2.1
    have hw9 := hw8.mono fun j hj hl => vk9.same j hj hl
    generalize (v7.move o.off 15).2 = v9 at s9 sh9
    have g9 := (s9.q.2 _ lh).trans gh
    have hoff : 0 ≤ o.off ∧ o.off ≤ 1024 := by
      have := hfit.1
      have e : o.b.rng.1 = o.off := by
        unfold Bop.rng Pl.Op.b
        dsimp only
        rcases hfit.2 with ⟨k, _⟩ | ⟨k, _⟩
        · have k' : o.kind = 2 := k
          rw [if_neg (by omega), if_pos k']
        · have k' : o.kind = 1 := k
          rw [if_pos k']
      omega
    have ew : IntKind.i64.wrap (o.off + 1) = o.off + 1 := by rw [wi64] <;> omega
    simp only [go_sem, simprocAttr, rp, rk, g9, ew]
    refine cl_spec (vSplit_ok s9.at_ (x := o.off + 1) (by unfold inI; omega)) (fun _ _ _ hc => absurd hc (by decide +kernel)) ?_
    rintro u k10 ⟨rfl, ow10, a10, vk10⟩
    have tl := turn_split_like s9.good (o.off + 1)
    have s10 := s9.step a10 vk10 tl.1 tl.2.2.1
    have sh10 := tl.2.1
    have hw10 := hw9.mono fun j hj hl => vk10.same j hj hl
    generalize (v9.turn (v9.mp.split (o.off + 1))).2 = v10 at s10 sh10
    have g10 := (s10.q.2 _ lh).trans gh
    simp only [go_sem, simprocAttr, rp, rk, g10]
    refine cl_spec (vMove_ok s10.at_ s10.good (by decide)) (fun _ _ _ hc => absurd hc (by decide +kernel)) ?_
    rintro u k11 ⟨rfl, ow11, a11, vk11⟩
    have ml2 := move_like s10.good (by decide) o.off 14
    have s11 := s10.step a11 vk11 ml2.1 ml2.2.2.1
    have sh11 := ml2.2.1
    have hw11 := hw10.mono fun j hj hl => vk11.same j hj hl
    generalize (v10.move o.off 14).2 = v11 at s11 sh11
    simp only [go_sem, simprocAttr, rp]
    refine cl_spec s11.map (fun _ _ _ hc => absurd hc (by decide +kernel)) ?_
    rintro u k12 ⟨ap, cp, rfl, _, q12⟩
    simp only [go_sem, simprocAttr, Pl.mapV, rp]
    refine cl_spec ((s11.quiet q12).read rfl) (fun _ _ _ hc => absurd hc (by decide +kernel)) ?_
    rintro u k13 ⟨ay, cy, rfl, hwy, q13⟩
    simp only [go_sem, simprocAttr]
    refine cl_spec (Words_ok hwy (hw11.quiet (q12.trans q13))) (fun _ _ _ hc => absurd hc (by decide +kernel)) ?_
    rintro u k14 ⟨rfl, rfl⟩
    rw [decide_eq_true ((sh11.trans sh10).trans sh9)]
    simp only [go_sem, simprocAttr]
end
end Go.Proofs.YtedpfdflolkpeaaGreatDoor
