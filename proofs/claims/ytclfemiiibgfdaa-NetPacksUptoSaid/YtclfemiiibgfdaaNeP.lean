/- net: a bag answers as the document's does. -/
import Derived.Test.YtclfemiiibgfdaaNeO
set_option linter.unusedSimpArgs false
set_option linter.unusedVariables false
set_option linter.unnecessarySimpa false
set_option maxRecDepth 100000
namespace Go.Proofs.Ytclfemiiibgfdaa
open Go.AM

/-- Both bags, apart from one another. -/
def Mid (h k : AHeap) (id rid : Nat) (gl : List G) (dl : List (List Nat × Bool)) : Prop :=
  h.quiet k ∧ ∃ Z Zr : Nat → Prop, BagAt Z k id gl ∧ RAt Zr k rid dl ∧ (∀ j, Z j → h.next ≤ j ∧ j < k.next) ∧ (∀ j, Zr j → h.next ≤ j ∧ j < k.next) ∧ ∀ j, Z j → ¬ Zr j
section
variable {h k k' : AHeap} {S Z Z2 Zr : Nat → Prop} {v w : Value} {id rid : Nat} {gl gl' : List G} {dl dl' : List (List Nat × Bool)}
theorem Mid.quiet (m : Mid h k id rid gl dl) (q : k.quiet k') : Mid h k' id rid gl dl := by
  obtain ⟨h1, Z, Zr, b, r, hz, hr, hd⟩ := m
  exact ⟨h1.trans q, Z, Zr, b.quiet q, r.quiet q, fun j e => ⟨(hz j e).1, Nat.lt_of_lt_of_le (hz j e).2 q.1⟩, fun j e => ⟨(hr j e).1, Nat.lt_of_lt_of_le (hr j e).2 q.1⟩, hd⟩
theorem Mid.prog (h1 : h.quiet k) (r : RAt Zr k rid dl) (hz : ∀ j, Z j → h.next ≤ j ∧ j < k.next) (hr : ∀ j, Zr j → h.next ≤ j ∧ j < k.next) (hd : ∀ j, Z j → ¬ Zr j) (f : Fw Z k k') (b : BagAt Z2 k' id gl') (h2 : ∀ j, Z2 j → upZ Z k j) : Mid h k' id rid gl' dl := by
  refine ⟨Fw.behind h1 f (fun j e => (hz j e).1), fun j => Z2 j ∧ j < k'.next, Zr, b.bound, r.mono fun j hj hl => ⟨hj, f.2 j hl (fun e => hd j e hj)⟩, fun j hj => ⟨?_, hj.2⟩, fun j e => ⟨(hr j e).1, Nat.lt_of_lt_of_le (hr j e).2 f.1⟩, fun j hj e => ?_⟩
  · rcases h2 j hj.1 with e | e
    · exact (hz j e).1
    · exact Nat.le_trans h1.1 e
  · rcases h2 j hj.1 with e' | e'
    · exact hd j e' e
    · have := (hr j e).2; omega
theorem Mid.docu (h1 : h.quiet k) (b : BagAt Z k id gl) (hrz : Zr rid) (hz : ∀ j, Z j → h.next ≤ j ∧ j < k.next) (hr : ∀ j, Zr j → h.next ≤ j ∧ j < k.next) (hd : ∀ j, Z j → ¬ Zr j) (f : Fw (· = rid) k k') (r : RAt (upZ Zr k) k' rid dl') : Mid h k' id rid gl dl' := by
  refine ⟨Fw.behind h1 f (fun j e => by subst e; exact (hr _ hrz).1), Z, fun j => upZ Zr k j ∧ j < k'.next, b.mono fun j hj hl => ⟨hj, f.2 j hl (fun e => hd j hj (e ▸ hrz))⟩, r.bound, fun j e => ⟨(hz j e).1, Nat.lt_of_lt_of_le (hz j e).2 f.1⟩, fun j hj => ⟨?_, hj.2⟩, fun j hj e => ?_⟩
  · rcases hj.1 with e | e
    · exact (hr j e).1
    · exact Nat.le_trans h1.1 e
  · rcases e.1 with e' | e'
    · exact hd j hj e'
    · have := (hz j hj).2; omega
def dlOf (gl : List G) : List (List Nat × Bool) := gl.map fun g => (g.bs, g.sp)
theorem dlOf_len (gl : List G) : (dlOf gl).length = gl.length := by simp [dlOf]
theorem act_len (a : NAct) (v : Value) : (a.cs v).length = 5 := rfl
theorem act_take (a : NAct) (v : Value) : (a.cs v).take 5 = a.cs v := rfl
theorem act_one (a : NAct) (x : Option Addr) (n c : Nat) : (a.cs (.slice x n c)).all one = true := rfl
theorem act_put (a : NAct) (v : Value) : putCells [.int .u8 0, .int .i64 0, .int .i64 0, .int .u8 0, .slice none 0 0] 0 (a.cs v) = a.cs v := rfl
theorem plays_law {acts : List NAct} (hs : IsSl rNAct (· < h.next) h acts w) (hb : ∀ a ∈ acts, ∀ x ∈ a.b, x.length ≤ 1048576) : Does Try.prog 6 #[w] h (fun u _ => u = .bool true) := by
  obtain ⟨a2, c2, rfl⟩ := hs.shape
  have hsl := hs.len
  refine spec_go mixed Try.func6 rfl Try.results6 (n := Try.f6.ntmps) (by kernel_rfl) (by simp) ?_
  simp only [go_sem, simprocAttr]
  refine cl_spec new_bag (fun u h' hp _ => hp.2.1) ?_
  rintro u k0 ⟨rfl, q0, b0⟩
  simp only [go_sem, simprocAttr]
  have m0 : Mid h (k0.push (.cells [.slice none 0 0] .rw)) h.next k0.next [] (dlOf []) := by
    have qp : k0.quiet (k0.push (.cells [.slice none 0 0] .rw)) := .push _ _
    refine ⟨q0.trans qp, fun j => h.next ≤ j ∧ j < k0.next, (· = k0.next), (b0.bound).quiet qp, ⟨rfl, ⟨none, 0, by simp [dlOf], .nil _ _ _⟩, by simp [dlOf], by simp [dlOf]⟩, fun j e => ⟨e.1, Nat.lt_of_lt_of_le e.2 qp.1⟩, fun j e => by subst e; exact ⟨q0.1, by simp⟩, fun j e e' => by subst e'; omega⟩
  have hne : h.next < k0.next := b0.lt
  generalize hk1 : k0.push (.cells [.slice none 0 0] .rw) = k1 at m0
  refine cl_spec alive_ok (fun u h' hp _ => hp.2) ?_
  rintro u k2 ⟨rfl, q2⟩
  have m1 := m0.quiet q2
  simp only [go_sem, simprocAttr]
  generalize hrid : k0.next = rid at *
  refine go_loop (fun z ρ k => ∃ (i : Nat) (gl : List G), i ≤ acts.length ∧ z = acts.length - i ∧ Mid h k h.next rid gl (dlOf gl) ∧ ρ 3 = .pointer (some ⟨h.next, 0, none⟩) ∧ ρ 4 = .pointer (some ⟨rid, 0, none⟩) ∧ ρ 21 = .slice a2 acts.length c2 ∧ ρ 22 = .int .i64 acts.length ∧ ρ 23 = .int .i64 i) acts.length ⟨0, [], by omega, by omega, m1, by simp only [go_sem, simprocAttr]⟩ ?_
  rintro z ρ k ⟨i, gl, hi, rfl, m, r3, r4, r21, r22, r23⟩
  simp only [go_sem, simprocAttr, r3, r4, r21, r22, r23]
  refine cnd_decide (fun hy => ?_) (fun hy => ?_)
  · have h1 : i < acts.length := by omega
    obtain ⟨hq, Z, Zr, bg, rg, hz, hr, hd⟩ := m
    obtain ⟨b, off, sp, cc, md, x, lv, hA, _, hg, hxi, hlv, hxb, hle, hdt⟩ := IsSl.atA (hs.quiet hq) h1
    obtain ⟨al, cl, rfl⟩ := hlv.shape
    have hxm := List.mem_of_getElem? hxi
    have ha4 := hxb.2.2.2
    have ha8 : x.by_ ≤ 255 := by rw [u8_max] at ha4; omega
    have e9 : IntKind.i64.wrap ((i : Int) + 1) = ((i + 1 : Nat) : Int) := by rw [wi64] <;> omega
    simp only [NAct.cs] at hdt
    simp only [go_sem, simprocAttr, r3, r4, r21, r22, r23, hy, hA, hg, hle, hdt, tmod4]
    have qb : k.quiet (k.push (.cells (x.cs (.slice al x.b.length cl)) .rw)) := .push _ _
    have gb : (k.push (.cells (x.cs (.slice al x.b.length cl)) .rw)).get k.next = .cells [.int .u8 (x.kd : Nat), .int .i64 x.i, .int .i64 x.at_, .int .u8 (x.by_ : Nat), .slice al x.b.length cl] .rw := by simp [NAct.cs]
    have nb : k.next < (k.push (.cells (x.cs (.slice al x.b.length cl)) .rw)).next := by simp
    simp only [NAct.cs] at qb gb nb
    generalize k.push (.cells [.int .u8 (x.kd : Nat), .int .i64 x.i, .int .i64 x.at_, .int .u8 (x.by_ : Nat), .slice al x.b.length cl] .rw) = kb at qb gb nb
    have bg1 := bg.quiet qb
    have rg1 := rg.quiet qb
    have hz1 : ∀ j, Z j → h.next ≤ j ∧ j < kb.next := fun j e => ⟨(hz j e).1, Nat.lt_of_lt_of_le (hz j e).2 qb.1⟩
    have hr1 : ∀ j, Zr j → h.next ≤ j ∧ j < kb.next := fun j e => ⟨(hr j e).1, Nat.lt_of_lt_of_le (hr j e).2 qb.1⟩
    have hbz : ¬ Z k.next := fun e => by have := (hz _ e).2; omega
    have hbr : k.next ≠ rid := fun e => by have := (hr rid rg.1).2; omega
    have hq1 := hq.trans qb
    have hlv1 := hlv.quiet qb
    have hlb : ∀ y ∈ x.b, y.length ≤ 1048576 := hb x hxm
    refine cnd_join (fun ρ k => (∃ gl, Mid h k h.next rid gl (dlOf gl)) ∧ ρ 3 = .pointer (some ⟨h.next, 0, none⟩) ∧ ρ 4 = .pointer (some ⟨rid, 0, none⟩) ∧ ρ 21 = .slice a2 acts.length c2 ∧ ρ 22 = .int .i64 acts.length ∧ ρ 23 = .int .i64 i ∧ ρ 7 = .bool true) ?_ ?_
    · by_cases hk0 : ((x.kd % 4 : Nat) : Int) = 0
      · simp only [go_sem, simprocAttr, r3, r4, r21, r22, r23, hk0, eq_self, decide_true, gb]
        refine cl_hard [6] (by decide +kernel) (bPut_ok bg1 hlv1 (fun j hj e => by have := (hz j e).1; omega) (fun y hy => by have := hlb y hy; omega)) (fun v h' hp t ht y hy => ?_) ?_
        · obtain rfl : t = 6 := by simpa using ht
          replace hy : vblk (.pointer (some ⟨k.next, 0, none⟩)) = some y := by rw [← hy]; simp only [go_sem, simprocAttr]
          cases hy
          exact hp.2.2.2 _ nb hbz
        · rintro u k3 ⟨rfl, ⟨gl', b3, hgm⟩, f3⟩
          have gb3 := (f3.2 _ nb hbz).trans gb
          have m3 := Mid.prog (dl := dlOf gl) hq1 rg1 hz1 hr1 hd f3 b3 (fun _ e => e)
          obtain ⟨hq3, Z3, Zr3, bg3, rg3, hz3, hr3, hd3⟩ := m3
          have hlv3 := hlv1.fr f3 (fun j hj _ e => by have := (hz j e).1; omega)
          simp only [go_sem, simprocAttr, r3, r4, r21, r22, r23, gb3]
          refine cl_spec (rbPut_ok rg3 hlv3 (fun j hj e => by subst e; have := (hr3 _ rg3.1).1; omega) hlb) (fun _ _ _ hc => absurd hc (by decide +kernel)) ?_
          rintro u k4 ⟨rfl, r5, f5⟩
          have m4 := Mid.docu hq3 bg3 rg3.1 hz3 hr3 hd3 f5 r5
          simp only [go_sem, simprocAttr, r3, r4, r21, r22, r23, dlOf_len, eq_self, decide_true]
          refine ⟨⟨gl ++ gl', ?_⟩, by simp only [go_sem, simprocAttr, r3, r4, r21, r22, r23, hA]⟩
          rw [dlOf_len, ← hgm] at m4
          rw [show dlOf (gl ++ gl') = dlOf gl ++ gl'.map (fun g => (g.bs, g.sp)) by simp [dlOf]]
          exact m4
      · by_cases hk1 : ((x.kd % 4 : Nat) : Int) = 1
        · simp only [go_sem, simprocAttr, r3, r4, r21, r22, r23, hk0, hk1, eq_self, decide_true, decide_false, gb]
          refine cl_spec (bTake_ok (i := x.i) bg1) (fun _ _ _ hc => absurd hc (by decide +kernel)) ?_
          rintro u k3 ⟨f3, hp3⟩
          have gb3 := (f3.2 _ nb hbz).trans gb
          by_cases h0 : x.i < 0 ∨ (gl.length : Int) ≤ x.i
          · rw [if_pos h0] at hp3
            obtain ⟨rfl, rfl⟩ := hp3
            simp only [go_sem, simprocAttr, r3, r4, r21, r22, r23, gb3]
            refine cl_spec (rbTake_ok (i := x.i) rg1) (fun _ _ _ hc => absurd hc (by decide +kernel)) ?_
            rintro u k4 ⟨f4, hp4⟩
            rw [dlOf_len, if_pos h0] at hp4
            obtain ⟨rfl, rfl⟩ := hp4
            simp only [go_sem, simprocAttr, r3, r4, r21, r22, r23]
            refine cl_spec (same_ok (S := fun _ => True) (.nil _ _ _) (.nil _ _ _)) (fun _ _ _ hc => absurd hc (by decide +kernel)) ?_
            rintro u k5 ⟨rfl, rfl⟩
            simp only [go_sem, simprocAttr, r3, r4, r21, r22, r23, eq_self, decide_true]
            exact ⟨⟨gl, hq1, Z, Zr, bg1, rg1, hz1, hr1, hd⟩, by simp only [go_sem, simprocAttr, r3, r4, r21, r22, r23, hA]⟩
          · rw [if_neg h0] at hp3
            obtain ⟨g, hgi, rfl, b3, hG⟩ := hp3
            obtain ⟨ag, hgv⟩ := hG.len
            have m3 := Mid.prog (dl := dlOf gl) hq1 rg1 hz1 hr1 hd f3 b3 (fun _ e => .inl e.1)
            have rg3 := rg1.mono (Z' := Zr) (k := k3) fun j hj hl => ⟨hj, f3.2 j hl (fun e => hd j e hj)⟩
            obtain ⟨hq3, Z3, Zr3, bg3, rg3, hz3, hr3, hd3⟩ := m3
            have hGb := hG.isSl
            rw [hgv] at hGb
            simp only [go_sem, simprocAttr, r3, r4, r21, r22, r23, gb3, hgv]
            refine cl_spec (rbTake_ok (i := x.i) rg3) (fun _ _ _ hc => absurd hc (by decide +kernel)) ?_
            rintro u k4 ⟨f4, hp4⟩
            rw [dlOf_len, if_neg h0] at hp4
            obtain ⟨y, yv, hyi, rfl, hyb, r5⟩ := hp4
            obtain rfl : y = (g.bs, g.sp) := by
              simp only [dlOf, List.getElem?_map, hgi, Option.map_some, Option.some.injEq] at hyi
              exact hyi.symm
            have hG4 := hGb.fr f4 (fun j hj _ e => by subst e; exact hd _ hj.1 rg.1)
            have m4 := Mid.docu hq3 bg3 rg3.1 hz3 hr3 hd3 f4 r5
            obtain ⟨ay, cy, rfl⟩ := hyb.shape
            simp only [go_sem, simprocAttr, r3, r4, r21, r22, r23]
            refine cl_spec (same_ok (S := fun _ => True) (hG4.weaken fun _ _ => trivial) (hyb.weaken fun _ _ => trivial)) (fun _ _ _ hc => absurd hc (by decide +kernel)) ?_
            rintro u k5 ⟨rfl, rfl⟩
            simp only [go_sem, simprocAttr, r3, r4, r21, r22, r23, eq_self, decide_true]
            refine ⟨⟨gl.eraseIdx x.i.toNat, ?_⟩, by simp only [go_sem, simprocAttr, r3, r4, r21, r22, r23, hA]⟩
            rw [show dlOf (gl.eraseIdx x.i.toNat) = (dlOf gl).eraseIdx x.i.toNat by simp [dlOf, List.eraseIdx_eq_take_drop_succ]]
            exact m4
        · by_cases hk2 : ((x.kd % 4 : Nat) : Int) = 2
          · simp only [go_sem, simprocAttr, r3, r4, r21, r22, r23, hk0, hk1, hk2, eq_self, decide_true, decide_false, gb]
            refine cl_hard [6] (by decide +kernel) (bTwice_ok (i := x.i) bg1 (fun g hg => by have := rg.2.2.2 (g.bs, g.sp) (List.mem_map_of_mem hg); simp only at this; omega)) (fun v h' hp t ht y hy => ?_) ?_
            · obtain rfl : t = 6 := by simpa using ht
              replace hy : vblk (.pointer (some ⟨k.next, 0, none⟩)) = some y := by rw [← hy]; simp only [go_sem, simprocAttr]
              cases hy
              exact hp.1.2 _ nb hbz
            · rintro u k3 ⟨f3, hp3⟩
              have gb3 := (f3.2 _ nb hbz).trans gb
              by_cases h0 : x.i < 0 ∨ (gl.length : Int) ≤ x.i
              · rw [if_pos h0] at hp3
                obtain ⟨rfl, rfl⟩ := hp3
                simp only [go_sem, simprocAttr, r3, r4, r21, r22, r23, gb3]
                refine cl_spec (rbTwice_ok (i := x.i) rg1) (fun _ _ _ hc => absurd hc (by decide +kernel)) ?_
                rintro u k4 ⟨f4, hp4⟩
                rw [dlOf_len, if_pos h0] at hp4
                obtain ⟨rfl, rfl⟩ := hp4
                simp only [go_sem, simprocAttr, r3, r4, r21, r22, r23, eq_self, decide_true]
                exact ⟨⟨gl, hq1, Z, Zr, bg1, rg1, hz1, hr1, hd⟩, by simp only [go_sem, simprocAttr, r3, r4, r21, r22, r23, hA]⟩
              · rw [if_neg h0] at hp3
                by_cases h2 : 256 ≤ gl.length
                · rw [if_pos h2] at hp3
                  obtain ⟨rfl, rfl⟩ := hp3
                  simp only [go_sem, simprocAttr, r3, r4, r21, r22, r23, gb3]
                  refine cl_spec (rbTwice_ok (i := x.i) rg1) (fun _ _ _ hc => absurd hc (by decide +kernel)) ?_
                  rintro u k4 ⟨f4, hp4⟩
                  rw [dlOf_len, if_neg h0, if_pos h2] at hp4
                  obtain ⟨rfl, rfl⟩ := hp4
                  simp only [go_sem, simprocAttr, r3, r4, r21, r22, r23, eq_self, decide_true]
                  exact ⟨⟨gl, hq1, Z, Zr, bg1, rg1, hz1, hr1, hd⟩, by simp only [go_sem, simprocAttr, r3, r4, r21, r22, r23, hA]⟩
                · rw [if_neg h2] at hp3
                  obtain ⟨rfl, g, hgi, gv, b3⟩ := hp3
                  have m3 := Mid.prog (dl := dlOf gl) hq1 rg1 hz1 hr1 hd f3 b3 (fun _ e => e)
                  obtain ⟨hq3, Z3, Zr3, bg3, rg3, hz3, hr3, hd3⟩ := m3
                  simp only [go_sem, simprocAttr, r3, r4, r21, r22, r23, gb3]
                  refine cl_spec (rbTwice_ok (i := x.i) rg3) (fun _ _ _ hc => absurd hc (by decide +kernel)) ?_
                  rintro u k4 ⟨f4, hp4⟩
                  rw [dlOf_len, if_neg h0, if_neg h2] at hp4
                  obtain ⟨rfl, y, hyi, r5⟩ := hp4
                  obtain rfl : y = (g.bs, g.sp) := by
                    simp only [dlOf, List.getElem?_map, hgi, Option.map_some, Option.some.injEq] at hyi
                    exact hyi.symm
                  have m4 := Mid.docu hq3 bg3 rg3.1 hz3 hr3 hd3 f4 r5
                  simp only [go_sem, simprocAttr, r3, r4, r21, r22, r23, eq_self, decide_true]
                  refine ⟨⟨gl ++ [⟨gv, g.bs, g.sp⟩], ?_⟩, by simp only [go_sem, simprocAttr, r3, r4, r21, r22, r23, hA]⟩
                  rw [show dlOf (gl ++ [⟨gv, g.bs, g.sp⟩]) = dlOf gl ++ [(g.bs, g.sp)] by simp [dlOf]]
                  exact m4
          · simp only [go_sem, simprocAttr, r3, r4, r21, r22, r23, hk0, hk1, hk2, eq_self, decide_true, decide_false, gb]
            refine cl_hard [6] (by decide +kernel) (bTurn_ok (i := x.i) (y := x.at_) bg1 ha8) (fun v h' hp t ht y hy => ?_) ?_
            · obtain rfl : t = 6 := by simpa using ht
              replace hy : vblk (.pointer (some ⟨k.next, 0, none⟩)) = some y := by rw [← hy]; simp only [go_sem, simprocAttr]
              cases hy
              exact hp.1.2 _ nb hbz
            · rintro u k3 ⟨f3, hp3⟩
              have gb3 := (f3.2 _ nb hbz).trans gb
              by_cases h0 : x.i < 0 ∨ (gl.length : Int) ≤ x.i
              · rw [if_pos h0] at hp3
                obtain ⟨rfl, rfl⟩ := hp3
                simp only [go_sem, simprocAttr, r3, r4, r21, r22, r23, gb3]
                refine cl_spec (rbTurn_ok (i := x.i) (y := x.at_) rg1 ha8) (fun _ _ _ hc => absurd hc (by decide +kernel)) ?_
                rintro u k4 ⟨f4, hp4⟩
                rw [dlOf_len, if_pos h0] at hp4
                obtain ⟨rfl, rfl⟩ := hp4
                simp only [go_sem, simprocAttr, r3, r4, r21, r22, r23, eq_self, decide_true]
                exact ⟨⟨gl, hq1, Z, Zr, bg1, rg1, hz1, hr1, hd⟩, by simp only [go_sem, simprocAttr, r3, r4, r21, r22, r23, hA]⟩
              · rw [if_neg h0] at hp3
                obtain ⟨g, hgi, hp3⟩ := hp3
                have hyi' : ∀ y, (dlOf gl)[x.i.toNat]? = some y → y = (g.bs, g.sp) := fun y hyi => by
                  simp only [dlOf, List.getElem?_map, hgi, Option.map_some, Option.some.injEq] at hyi
                  exact hyi.symm
                by_cases h2 : g.sp = true
                · rw [if_pos h2] at hp3
                  obtain ⟨rfl, rfl⟩ := hp3
                  simp only [go_sem, simprocAttr, r3, r4, r21, r22, r23, gb3]
                  refine cl_spec (rbTurn_ok (i := x.i) (y := x.at_) rg1 ha8) (fun _ _ _ hc => absurd hc (by decide +kernel)) ?_
                  rintro u k4 ⟨f4, hp4⟩
                  rw [dlOf_len, if_neg h0] at hp4
                  obtain ⟨y, hyi, hp4⟩ := hp4
                  obtain rfl := hyi' y hyi
                  rw [if_pos (by exact h2)] at hp4
                  obtain ⟨rfl, rfl⟩ := hp4
                  simp only [go_sem, simprocAttr, r3, r4, r21, r22, r23, eq_self, decide_true]
                  exact ⟨⟨gl, hq1, Z, Zr, bg1, rg1, hz1, hr1, hd⟩, by simp only [go_sem, simprocAttr, r3, r4, r21, r22, r23, hA]⟩
                · rw [if_neg h2] at hp3
                  by_cases h3 : g.bs.length = 0 ∨ x.by_ = 0
                  · rw [if_pos h3] at hp3
                    obtain ⟨rfl, rfl⟩ := hp3
                    simp only [go_sem, simprocAttr, r3, r4, r21, r22, r23, gb3]
                    refine cl_spec (rbTurn_ok (i := x.i) (y := x.at_) rg1 ha8) (fun _ _ _ hc => absurd hc (by decide +kernel)) ?_
                    rintro u k4 ⟨f4, hp4⟩
                    rw [dlOf_len, if_neg h0] at hp4
                    obtain ⟨y, hyi, hp4⟩ := hp4
                    obtain rfl := hyi' y hyi
                    rw [if_neg (by exact h2), if_pos (by exact h3)] at hp4
                    obtain ⟨rfl, rfl⟩ := hp4
                    simp only [go_sem, simprocAttr, r3, r4, r21, r22, r23, eq_self, decide_true]
                    exact ⟨⟨gl, hq1, Z, Zr, bg1, rg1, hz1, hr1, hd⟩, by simp only [go_sem, simprocAttr, r3, r4, r21, r22, r23, hA]⟩
                  · rw [if_neg h3] at hp3
                    obtain ⟨rfl, hta, b3⟩ := hp3
                    have m3 := Mid.prog (dl := dlOf gl) hq1 rg1 hz1 hr1 hd f3 b3 (fun _ e => .inl e)
                    obtain ⟨hq3, Z3, Zr3, bg3, rg3, hz3, hr3, hd3⟩ := m3
                    simp only [go_sem, simprocAttr, r3, r4, r21, r22, r23, gb3]
                    refine cl_spec (rbTurn_ok (i := x.i) (y := x.at_) rg3 ha8) (fun _ _ _ hc => absurd hc (by decide +kernel)) ?_
                    rintro u k4 ⟨f4, hp4⟩
                    rw [dlOf_len, if_neg h0] at hp4
                    obtain ⟨y, hyi, hp4⟩ := hp4
                    obtain rfl := hyi' y hyi
                    rw [if_neg (by exact h2), if_neg (by exact h3)] at hp4
                    obtain ⟨rfl, r5⟩ := hp4
                    have m4 := Mid.docu hq3 bg3 rg3.1 hz3 hr3 hd3 f4 r5
                    simp only [go_sem, simprocAttr, r3, r4, r21, r22, r23, eq_self, decide_true]
                    refine ⟨⟨gl.set x.i.toNat (g.turn (tAt x.at_ g.bs.length) x.by_), ?_⟩, by simp only [go_sem, simprocAttr, r3, r4, r21, r22, r23, hA]⟩
                    rw [show dlOf (gl.set x.i.toNat (g.turn (tAt x.at_ g.bs.length) x.by_)) = (dlOf gl).set x.i.toNat (g.bs.set (tAt x.at_ g.bs.length) ((g.bs[tAt x.at_ g.bs.length]?.getD 0) ^^^ x.by_), true) by simp [dlOf, List.map_set, G.turn]]
                    exact m4
    · rintro ρ k3 ⟨⟨gl3, m3⟩, r3, r4, r21, r22, r23, r7⟩
      obtain ⟨hq3, Z3, Zr3, bg3, rg3, hz3, hr3, hd3⟩ := id m3
      obtain ⟨_, ⟨ar, cr, hgr, _⟩, _⟩ := id rg3
      simp only [go_sem, simprocAttr, r3, r4, r21, r22, r23, r7]
      refine cl_spec (bSize_ok bg3) (fun u h' hp _ => by rw [hp.2]; exact .refl _) ?_
      rintro u k4 ⟨rfl, rfl⟩
      simp only [go_sem, simprocAttr, r3, r4, r21, r22, r23, r7, hgr, dlOf_len, eq_self, decide_true, e9]
      exact Hold.mk ⟨acts.length - (i + 1), by omega, i + 1, gl3, by omega, rfl, m3, by simp only [go_sem, simprocAttr, r3, r4, r21, r22, hA]⟩
  · simp only [go_sem, simprocAttr]
end
end Go.Proofs.Ytclfemiiibgfdaa
