/- volume: maps are made, and turned: the walk. -/
import Derived.Test.YtedpfdflolkpeaaGreatDoorVoB
set_option linter.unusedSimpArgs false
set_option linter.unusedVariables false
set_option linter.unnecessarySimpa false
set_option maxRecDepth 100000
namespace Go.Proofs.YtedpfdflolkpeaaGreatDoor.Pl
open Go.AM

def Piece.cs (p : Piece) : List Value := [.int .i64 p.frm, .int .i64 p.to, .int .i64 p.node]
theorem pcs_len : ∀ (ps : List Piece), (ps.map Piece.cs).flatten.length = ps.length * 3
  | [] => rfl
  | p :: ps => by rw [List.map_cons, List.flatten_cons, List.length_append, pcs_len ps, List.length_cons]; simp only [Piece.cs, List.length_cons, List.length_nil]; omega
theorem pcs_app (ps qs : List Piece) : ((ps ++ qs).map Piece.cs).flatten = (ps.map Piece.cs).flatten ++ (qs.map Piece.cs).flatten := by rw [List.map_append, List.flatten_append]
theorem piece_all2 {S : Nat → Prop} {h : AHeap} : ∀ {ps : List Piece}, (∀ p ∈ ps, p.ok) → All2 (rPiece.R S h) ps (ps.map Piece.cs)
  | [], _ => .nil
  | p :: ps, hp => .cons (rPiece_iff.2 ⟨rfl, hp p (by simp)⟩) (piece_all2 fun q hq => hp q (by simp [hq]))
theorem all2_piece {S : Nat → Prop} {h : AHeap} : ∀ {ps : List Piece} {css : List (List Value)}, All2 (rPiece.R S h) ps css → css = ps.map Piece.cs ∧ ∀ p ∈ ps, p.ok
  | [], _, ha => by rw [ha.nil_inv]; exact ⟨rfl, fun _ e => by cases e⟩
  | p :: ps, _, ha => by
    obtain ⟨y, ys, rfl, h1, h2⟩ := ha.cons_inv
    obtain ⟨rfl, h3⟩ := rPiece_iff.1 h1
    obtain ⟨rfl, h4⟩ := all2_piece h2
    exact ⟨rfl, fun q hq => (List.mem_cons.1 hq).elim (fun e => e ▸ h3) (h4 q)⟩
theorem _root_.Go.AM.IsSl.oks {S : Nat → Prop} {h : AHeap} {ps : List Piece} {v : Value} (hs : IsSl rPiece S h ps v) : ∀ p ∈ ps, p.ok := by
  obtain ⟨_, _, css, _, _, _, _, _, ha, _⟩ := hs
  exact (all2_piece ha).2
theorem _root_.Go.AM.IsSl.acellsP {S : Nat → Prop} {h : AHeap} {ps : List Piece} {a : Option Addr} {n cap : Nat} (hs : IsSl rPiece S h ps (.slice a n cap)) : AM.acells h 3 n (.slice a n cap) = some (ps.map Piece.cs).flatten := by
  obtain ⟨css, h1, h2⟩ := hs.acells 3 rfl
  rw [h1, (all2_piece h2).1]

/-- Pieces that are put together, in a row with room. -/
def LstP (lo : Nat) (h : AHeap) (xs : List Piece) (cap : Nat) (v : Value) : Prop :=
  xs.length ≤ cap ∧ (∀ x ∈ xs, x.ok) ∧ ((cap = 0 ∧ v = .slice none 0 0) ∨ ∃ ob c, v = .slice (some ⟨ob, 0, some 3⟩) xs.length cap ∧ lo ≤ ob ∧ h.get ob = .cells c (.tail 3) ∧ c.length = cap * 3 ∧ c.take (xs.length * 3) = (xs.map Piece.cs).flatten)

section
variable {h : AHeap} {S : Nat → Prop} {v : Value}
theorem LstP.isSl {lo : Nat} {xs : List Piece} {cap : Nat} {v : Value} (hl : LstP lo h xs cap v) (h62 : cap ≤ 281474976710656) : IsSl rPiece (lo ≤ ·) h xs v := by
  obtain ⟨h1, h2, ⟨rfl, rfl⟩ | ⟨ob, c, rfl, h3, h4, h5, h6⟩⟩ := hl
  · have : xs = [] := List.eq_nil_of_length_eq_zero (by omega)
    subst this; exact .nil _ _ _
  · refine ⟨_, _, _, rfl, h1, by omega, (fun h => by cases h), (fun ad h => by cases h; exact .inr rfl), piece_all2 h2, fun _ => ⟨_, _, _, rfl, h3, h4, ?_, ?_⟩⟩
    · show 0 + xs.length * 3 ≤ c.length; omega
    · show (c.drop 0).take (xs.length * 3) = _
      rw [List.drop_zero, h6]
@[go_sem] theorem pcs_one (ps : List Piece) : (ps.map Piece.cs).flatten.all one = true := by
  rw [List.all_flatten, List.all_eq_true]
  intro c hc
  obtain ⟨p, _, rfl⟩ := List.mem_map.1 hc
  rfl
theorem LstP.app {lo : Nat} {xs ys : List Piece} {cap : Nat} {v : Value} (hl : LstP lo h xs cap v) (hy : ∀ y ∈ ys, y.ok) (hc : xs.length + ys.length ≤ cap) :
    ∃ v' h', aappend h 3 24 v ys.length (ys.map Piece.cs).flatten = some (v', h') ∧ LstP lo h' (xs ++ ys) cap v' ∧ Fw (lo ≤ ·) h h' := by
  obtain ⟨h1, h2, ⟨rfl, rfl⟩ | ⟨ob, c, rfl, h3, h4, h5, h6⟩⟩ := hl
  · have hx : xs = [] := List.eq_nil_of_length_eq_zero (by omega)
    have hys : ys = [] := List.eq_nil_of_length_eq_zero (by omega)
    subst hx hys
    exact ⟨_, _, by rw [aappend_nil, if_pos List.length_nil], ⟨Nat.le_refl _, by simp, .inl ⟨rfl, rfl⟩⟩, .refl _ _⟩
  · by_cases hn0 : ys.length = 0
    · have hys : ys = [] := List.eq_nil_of_length_eq_zero hn0
      subst hys
      exact ⟨.slice (some ⟨ob, 0, some 3⟩) xs.length cap, h, by rw [aappend_u, if_pos List.length_nil], ⟨by simpa using h1, by simpa using h2, .inr ⟨ob, c, by simp, h3, h4, h5, by simpa using h6⟩⟩, .refl _ _⟩
    · have hlt : ob < h.next := AHeap.lt_of_alive h (by rw [h4]; simp)
      refine ⟨_, _, by rw [aappend_u, if_neg hn0, if_pos hc, h4, appIn_cells, if_pos ⟨by simp, by omega⟩], ⟨by simpa using hc, ?_, .inr ⟨ob, _, by simp, h3, AHeap.get_set_self _ _ hlt, ?_, ?_⟩⟩, ?_⟩
      · intro x hx
        rcases List.mem_append.1 hx with hx | hx
        · exact h2 x hx
        · exact hy x hx
      · rw [length_putCells]; exact h5
      · have l1 := pcs_len xs; have l2 := pcs_len ys
        rw [putCells_eq _ _ _ (by rw [l2]; omega), Nat.zero_add, List.length_append, Nat.add_mul, List.take_append_of_le_length (by rw [List.length_append, List.length_take, l2]; omega), List.take_of_length_le (by rw [List.length_append, List.length_take, l2]; omega), h6, pcs_app]
      · exact (Fw.set _).mono fun j _ e => by subst e; exact h3
theorem GrowP_ok {n : Nat} (hn : n ≤ 1099511627776) : Does Tryz.prog 156 #[.slice none 0 0, .int .i64 n] h (fun u h' => h.quiet h' ∧ LstP h.next h' [] n u) := by
  have e1 : IntKind.i64.wrap ((n : Int) - IntKind.i64.wrap 0) = n := by
    rw [show IntKind.i64.wrap 0 = 0 from rfl, wi64] <;> omega
  have e0 : ¬ ((n : Int) < 0) := by omega
  refine spec_go mixed Tryz.func156 rfl Tryz.results156 (n := Tryz.f156.ntmps) (by kernel_rfl) (by simp) ?_
  simp only [go_sem, simprocAttr, e0, e1, decide_false]
  by_cases hn0 : (0 : Int) < n
  · have b1 : (n : Int) * 24 ≤ 140737488355328 := by omega
    have b2 : (n : Int) ≤ 4611686018427387904 := by omega
    simp only [go_sem, simprocAttr, hn0, decide_true, b1, b2]
    exact ⟨Nat.zero_le _, by simp, .inr ⟨h.next, _, by simp, Nat.le_refl _, AHeap.get_push_self _ _, by simp [azeros], rfl⟩⟩
  · have : n = 0 := by omega
    subst this
    simp only [go_sem, simprocAttr, hn0, decide_false]
    exact ⟨Nat.le_refl _, by simp, .inl ⟨rfl, rfl⟩⟩
theorem sum_takeP (ls : List (List Piece)) {i : Nat} {x : List Piece} (hi : ls[i]? = some x) : (ls.take (i + 1)).flatten = (ls.take i).flatten ++ x := by
  rw [List.take_add_one, hi]; simp
theorem flat_take_leP (ls : List (List Piece)) (i : Nat) : (ls.take i).flatten.length ≤ ls.flatten.length := by
  conv => rhs; rw [← List.take_append_drop i ls, List.flatten_append, List.length_append]
  omega
theorem ConcatP_ok {ls : List (List Piece)} {v : Value} (hx : IsSl (Rep.list rPiece) S h ls v) (hn : ls.flatten.length ≤ 1099511627776) : Does Tryz.prog 139 #[v] h (fun u h' => h.quiet h' ∧ IsSl rPiece (h.next ≤ ·) h' ls.flatten u) := by
  obtain ⟨a, c, rfl⟩ := hx.shape
  have hl := hx.len
  refine spec_go mixed Tryz.func139 rfl Tryz.results139 (n := Tryz.f139.ntmps) (by kernel_rfl) (by simp) ?_
  simp only [go_sem, simprocAttr]
  refine go_loop (fun z ρ k => ∃ i : Nat, i ≤ ls.length ∧ z = ls.length - i ∧ k = h ∧ ρ 0 = .slice a ls.length c ∧ ρ 3 = .int .i64 ((ls.take i).flatten.length : Nat) ∧ ρ 9 = .slice a ls.length c ∧ ρ 10 = .int .i64 ls.length ∧ ρ 11 = .int .i64 i) ls.length
    ⟨0, by omega, by omega, rfl, by simp only [go_sem, simprocAttr]; simp⟩ ?_
  rintro z ρ k ⟨i, hi, rfl, rfl, r0, r3, r9, r10, r11⟩
  simp only [go_sem, simprocAttr, r0, r3, r9, r10, r11]
  refine cnd_decide (fun hx' => ?_) (fun hx' => ?_)
  · have h1 : i < ls.length := by omega
    obtain ⟨b, off, sp, cc, md, x, u, rfl, _, hg, hxi, hxu, hc⟩ := hx.atL h1
    obtain ⟨ax, cx, rfl⟩ := hxu.shape
    have e9 : IntKind.i64.wrap ((i : Int) + 1) = ((i + 1 : Nat) : Int) := by rw [wi64] <;> omega
    have ht := congrArg List.length (sum_takeP ls hxi)
    rw [List.length_append] at ht
    have hb := flat_take_leP ls (i + 1)
    have e3 : IntKind.i64.wrap (((ls.take i).flatten.length : Nat) + (x.length : Nat) : Int) = ((ls.take (i + 1)).flatten.length : Nat) := by rw [wi64] <;> omega
    simp only [go_sem, simprocAttr, r0, r3, r9, r10, r11, h1, hg, hc, e3, e9]
    exact Hold.mk ⟨ls.length - (i + 1), by omega, i + 1, by omega, rfl, rfl, by simp only [go_sem, simprocAttr, r0, r9, r10]⟩
  · have : i = ls.length := by omega
    subst this
    rw [List.take_length] at r3
    simp only [go_sem, simprocAttr, r0, r3]
    refine cl_spec (GrowP_ok hn) (fun _ _ _ hc => absurd hc (by decide +kernel)) ?_
    rintro u k1 ⟨q1, hl1⟩
    simp only [go_sem, simprocAttr, r0]
    refine go_loop (fun z ρ k2 => ∃ (i : Nat) (u : Value), i ≤ ls.length ∧ z = ls.length - i ∧ k.quiet k2 ∧ LstP k.next k2 (ls.take i).flatten ls.flatten.length u ∧ ρ 6 = u ∧ ρ 25 = .slice a ls.length c ∧ ρ 26 = .int .i64 ls.length ∧ ρ 27 = .int .i64 i) ls.length
      ⟨0, u, by omega, by omega, q1, by simpa using hl1, by simp only [go_sem, simprocAttr]⟩ ?_
    rintro z ρ k2 ⟨i, u, hi, rfl, qk, hl2, r6, r25, r26, r27⟩
    simp only [go_sem, simprocAttr, r6, r25, r26, r27]
    refine cnd_decide (fun hx' => ?_) (fun hx' => ?_)
    · have h1 : i < ls.length := by omega
      obtain ⟨b, off, sp, cc, md, x, xu, rfl, _, hg, hxi, hxu, hc⟩ := (hx.quiet qk).atL h1
      obtain ⟨ax, cx, rfl⟩ := hxu.shape
      have e9 : IntKind.i64.wrap ((i : Int) + 1) = ((i + 1 : Nat) : Int) := by rw [wi64] <;> omega
      have ht := congrArg List.length (sum_takeP ls hxi)
      rw [List.length_append] at ht
      have hb := flat_take_leP ls (i + 1)
      obtain ⟨u4, k4, e4, hl4, hf4⟩ := hl2.app (ys := x) hxu.oks (by omega)
      simp only [go_sem, simprocAttr, r6, r25, r26, r27, h1, hg, hc, hxu.acellsP, e4, e9]
      refine Hold.mk ⟨ls.length - (i + 1), by omega, i + 1, u4, by omega, rfl, Fw.behind qk hf4 (fun j e => e), ?_, by simp only [go_sem, simprocAttr, r25, r26]⟩
      rw [sum_takeP ls hxi]; exact hl4
    · have : i = ls.length := by omega
      subst this
      rw [List.take_length] at hl2
      simp only [go_sem, simprocAttr, r6]
      exact ⟨qk, hl2.isSl (by omega)⟩

theorem SMap.right.oks {m : SMap} (hr : m.right) : m.ps.length ≤ 16 := hr.1.2.2.2.2
theorem next_ok {m : SMap} {a b : Nat} {ins : List Piece} {w : Value} {S' : Nat → Prop} (hd : IsSl rPiece S h m.ps v) (hw : IsSl rPiece S' h ins w) (hl : m.ps.length ≤ 16) (hli : ins.length ≤ 16) (ha : a ≤ b) (hb : b ≤ m.ps.length) (hv : 1 ≤ m.ver) (hv2 : m.ver ≤ 1099511627776) :
    Does Tryz.prog 109 #[mapV m v, .int .i64 a, .int .i64 b, w] h (fun u h' => h.quiet h' ∧ ∃ v', u = .tuple #[mapV (m.next a b ins).1 v', .int .i64 (m.next a b ins).2] ∧ IsSl rPiece (h.next ≤ ·) h' (m.next a b ins).1.ps v') := by
  obtain ⟨ad, c, rfl⟩ := hd.shape
  obtain ⟨aw, cw, rfl⟩ := hw.shape
  refine spec_go mixed Tryz.func109 rfl Tryz.results109 (n := Tryz.f109.ntmps) (by kernel_rfl) (by simp) ?_
  unfold SMap.next
  by_cases hf : m.ver = 1099511627776
  · rw [if_pos hf]
    simp only [go_sem, simprocAttr, hf]
    exact ⟨_, rfl, .nil _ _ _⟩
  · rw [if_neg hf]
    have e1 : IntKind.i64.wrap (m.ver + 1) = m.ver + 1 := by rw [wi64] <;> omega
    obtain ⟨a1, c1, s1, d1⟩ := hd.sliceI 3 rfl (l := 0) (m := (a : Int)) (by omega) (by omega) (by omega)
    obtain ⟨a2, c2, s2, d2⟩ := hd.sliceI 3 rfl (l := (b : Int)) (m := (m.ps.length : Nat)) (by omega) (by omega) (by omega)
    simp only [Int.toNat_natCast, Int.toNat_zero, Nat.sub_zero, List.drop_zero] at s1 s2 d1 d2
    rw [List.take_of_length_le (by rw [List.length_drop]; omega)] at d2
    simp only [go_sem, simprocAttr, hf, e1, s1, s2]
    refine cl_gen fun k ek => ?_
    have q1 : h.quiet k := by rw [ek]; simp only [go_sem, simprocAttr]
    have g0 : k.get h.next = .cells [.int .i64 m.ver, .int .i64 m.n, .slice ad m.ps.length c] .rw := by rw [ek]; simp only [go_sem, simprocAttr]
    have g1 : k.get (h.next + 1) = .cells [.int .i64 0, .int .i64 0, .slice none 0 0] .rw := by rw [ek]; simp only [go_sem, simprocAttr]
    have g2 : k.get (h.next + 1 + 1) = .cells [.slice a1 a c1, .slice aw ins.length cw, .slice a2 (m.ps.length - b) c2] .rw := by rw [ek]; simp only [go_sem, simprocAttr]
    have l1 : h.next + 1 < k.next := by rw [ek]; simp
    have hL : IsSl (Rep.list rPiece) (fun _ => True) k [m.ps.take a, ins, m.ps.drop b] (.slice (some ⟨h.next + 1 + 1, 0, none⟩) 3 3) :=
      ⟨_, 3, [[_], [_], [_]], rfl, Nat.le_refl _, (show 3 ≤ 9223372036854775807 by decide), (fun e => by cases e), (fun ad e => by cases e; exact .inl rfl),
        .cons ⟨_, rfl, (d1.quiet q1).weaken fun _ _ => trivial⟩ (.cons ⟨_, rfl, (hw.quiet q1).weaken fun _ _ => trivial⟩ (.cons ⟨_, rfl, (d2.quiet q1).weaken fun _ _ => trivial⟩ .nil)),
        fun _ => ⟨_, _, _, rfl, trivial, g2, Nat.le_refl 3, rfl⟩⟩
    clear ek
    have hfl : [m.ps.take a, ins, m.ps.drop b].flatten = m.ps.take a ++ ins ++ m.ps.drop b := by simp
    refine cl_spec (ConcatP_ok hL (by rw [hfl]; simp; omega)) (fun u h' hp _ => hp.1) ?_
    rintro u k1 ⟨q2, hu⟩
    rw [hfl] at hu
    obtain ⟨au, cu, rfl⟩ := hu.shape
    have g1' : k1.get (h.next + 1) = _ := (q2.2 _ l1).trans g1
    have q3 := q1.trans q2
    have l1' : h.next + 1 < k1.next := Nat.lt_of_lt_of_le l1 q2.1
    simp only [go_sem, simprocAttr, g1', AHeap.get_set_self _ _ l1']
    refine ⟨q3.set' (by omega) _, _, rfl, ?_⟩
    exact hu.mono fun j hj hl => ⟨by have := q1.1; omega, AHeap.get_set_ne _ _ (by omega)⟩
theorem insP {id : Nat} {ps : List Piece} {n : Nat} (hn : ps.length = n) (hn2 : n ≤ 16) (hok : ∀ p ∈ ps, p.ok) (hg : h.get id = .cells (ps.map Piece.cs).flatten .rw) : IsSl rPiece (fun _ => True) h ps (.slice (some ⟨id, 0, none⟩) n n) := by
  subst hn
  exact ⟨_, _, ps.map Piece.cs, rfl, Nat.le_refl _, by omega, (fun e => by cases e), (fun ad e => by cases e; exact .inl rfl), piece_all2 hok,
    fun _ => ⟨_, _, _, rfl, trivial, hg, by show 0 + ps.length * 3 ≤ _; rw [pcs_len]; omega, by show ((ps.map Piece.cs).flatten.drop 0).take (ps.length * 3) = _; rw [List.drop_zero, List.take_of_length_le (by rw [pcs_len]; exact Nat.le_refl _)]⟩⟩
theorem split_ok {m : SMap} {x : Int} (hd : IsSl rPiece S h m.ps v) (hx : inI x) :
    Does Tryz.prog 66 #[mapV m v, .int .i64 x] h (fun u h' => h.quiet h' ∧ ∃ v', u = .tuple #[mapV (m.split x).1 v', .int .i64 (m.split x).2] ∧ IsSl rPiece (h.next ≤ ·) h' (m.split x).1.ps v') := by
  obtain ⟨ad, c, rfl⟩ := hd.shape
  refine spec_go mixed Tryz.func66 rfl Tryz.results66 (n := Tryz.f66.ntmps) (by kernel_rfl) (by simp) ?_
  simp only [go_sem, simprocAttr]
  refine cl_gen fun k ek => ?_
  have q1 : h.quiet k := by rw [ek]; simp only [go_sem, simprocAttr]
  have g0 : k.get h.next = .cells [.int .i64 m.ver, .int .i64 m.n, .slice ad m.ps.length c] .rw := by rw [ek]; simp only [go_sem, simprocAttr]
  have g1 : k.get (h.next + 1) = .cells [.int .i64 0, .int .i64 0, .slice none 0 0] .rw := by rw [ek]; simp only [go_sem, simprocAttr]
  have l1 : h.next + 1 < k.next := by rw [ek]; simp
  clear ek
  refine cl_spec (find_ok (hd.quiet q1)) (fun _ _ _ hc => absurd hc (by decide +kernel)) ?_
  rintro u k1 ⟨rfl, q2⟩
  have q3 := q1.trans q2
  have g0' : k1.get h.next = _ := (q2.2 _ (by omega)).trans g0
  have g1' : k1.get (h.next + 1) = _ := (q2.2 _ l1).trans g1
  have l1' : h.next + 1 < k1.next := Nat.lt_of_lt_of_le l1 q2.1
  unfold SMap.split
  have zset : k1.quiet (k1.set (h.next + 1) (.cells [.int .i64 0, .int .i64 0, .slice none 0 0] .rw)) := by
    rw [AHeap.set_get g1' (by simp)]; exact .refl _
  by_cases hz : (m.find x).2 = 0
  · by_cases hx0 : x = 0
    · rw [if_pos (.inr hx0)]
      subst hx0
      simp only [go_sem, simprocAttr, g0', g1', hz, AHeap.get_set_self _ _ l1']
      exact ⟨q3.trans zset, _, rfl, .nil _ _ _⟩
    · rw [if_neg (fun e => e.elim (fun e => e hz) hx0)]
      obtain ⟨hr, hb0, hbn, ei, p, hp, hpa, e1, e2, e3, e4, e5, e6⟩ := SMap.find_of hz
      have hlt := (List.getElem?_eq_some_iff.1 hp).1
      obtain ⟨b0, ofs, sp, cc, md, p', hA, _, hg, hpi, hp', hle, hdt, f0, f1, f2⟩ := (hd.quiet q3).atPiece hlt
      subst hA
      rw [hp] at hpi; cases hpi
      have hlen := hd.len
      dsimp only
      rw [hpa, ei, Int.toNat_natCast]
      simp only [go_sem, simprocAttr, g0', g1', hz, hx0, hlt, hg, hdt, hle]
      have qp : k1.quiet (k1.push (.cells [.int .i64 p.frm, .int .i64 p.to, .int .i64 p.node] .rw)) := .push _ _
      have gp : (k1.push (.cells [.int .i64 p.frm, .int .i64 p.to, .int .i64 p.node] .rw)).get k1.next = .cells [.int .i64 p.frm, .int .i64 p.to, .int .i64 p.node] .rw := by simp
      generalize k1.push (.cells [.int .i64 p.frm, .int .i64 p.to, .int .i64 p.node] .rw) = k2 at qp gp
      have g0'' : k2.get h.next = _ := (qp.2 _ (by omega)).trans g0'
      have g1'' : k2.get (h.next + 1) = _ := (qp.2 _ l1').trans g1'
      have l2' : h.next + 1 < k2.next := Nat.lt_of_lt_of_le l1' qp.1
      have q4 := q3.trans qp
      have zset2 : k2.quiet (k2.set (h.next + 1) (.cells [.int .i64 0, .int .i64 0, .slice none 0 0] .rw)) := by
        rw [AHeap.set_get g1'' (by simp)]; exact .refl _
      by_cases hf : p.frm = x
      · rw [if_pos hf]
        simp only [go_sem, simprocAttr, hf, gp, g0'', g1'', AHeap.get_set_self _ _ l2']
        exact ⟨q4.trans zset2, _, rfl, .nil _ _ _⟩
      rw [if_neg hf]
      by_cases h16 : m.ps.length = 16
      · rw [if_pos h16]
        have h16' : ((m.ps.length : Nat) : Int) = 16 := by omega
        simp only [go_sem, simprocAttr, hf, gp, g0'', g1'', h16', AHeap.get_set_self _ _ l2']
        exact ⟨q4.trans zset2, _, rfl, .nil _ _ _⟩
      rw [if_neg h16]
      have h16' : ¬ ((m.ps.length : Nat) : Int) = 16 := by omega
      have ew : IntKind.i64.wrap ((idxP x m.ps : Int) + 1) = ((idxP x m.ps + 1 : Nat) : Int) := by rw [wi64] <;> omega
      simp only [go_sem, simprocAttr, hf, gp, g0'', g1'', h16', ew]
      have qx : k2.quiet (k2.push (.cells [.int .i64 p.frm, .int .i64 x, .int .i64 p.node, .int .i64 x, .int .i64 p.to, .int .i64 p.node] .rw)) := .push _ _
      have hI : IsSl rPiece (fun _ => True) (k2.push (.cells [.int .i64 p.frm, .int .i64 x, .int .i64 p.node, .int .i64 x, .int .i64 p.to, .int .i64 p.node] .rw)) [⟨p.frm, x, p.node⟩, ⟨x, p.to, p.node⟩] (.slice (some ⟨k2.next, 0, none⟩) 2 2) :=
        insP rfl (by decide) (by
          intro y hy
          rcases List.mem_cons.1 hy with rfl | hy
          · exact ⟨hp'.1, hx, hp'.2.2⟩
          · obtain rfl := List.mem_singleton.1 hy; exact ⟨hx, hp'.2.1, hp'.2.2⟩) (by simp; rfl)
      have q5 := q4.trans qx
      refine cl_spec (next_ok (m := m) (a := idxP x m.ps) (b := idxP x m.ps + 1) (hd.quiet q5) hI hr.oks (show 2 ≤ 16 by decide) (by omega) (by omega) hr.1.1 hr.1.2.1) (fun u h' hp _ => hp.1) ?_
      rintro u k3 ⟨q6, v', rfl, hv'⟩
      obtain ⟨av, cv, rfl⟩ := hv'.shape
      have l3 : h.next + 1 < k3.next := Nat.lt_of_lt_of_le (Nat.lt_of_lt_of_le l2' qx.1) q6.1
      have g1x : k3.get (h.next + 1) = _ := ((qx.trans q6).2 _ l2').trans g1''
      simp only [go_sem, simprocAttr, g1x, AHeap.get_set_self _ _ l3]
      refine ⟨(q5.trans q6).set' (by omega) _, _, rfl, hv'.mono fun j hj hl => ?_⟩
      have := q5.1; have := qx.1
      simp only [AHeap.next_push] at hj
      exact ⟨by omega, AHeap.get_set_ne _ _ (by omega)⟩
  · rw [if_pos (.inl hz)]
    simp only [go_sem, simprocAttr, g0', g1', hz, AHeap.get_set_self _ _ l1']
    exact ⟨q3.trans zset, _, rfl, .nil _ _ _⟩
theorem merge_ok {m : SMap} {x : Int} (hd : IsSl rPiece S h m.ps v) :
    Does Tryz.prog 96 #[mapV m v, .int .i64 x] h (fun u h' => h.quiet h' ∧ ∃ v', u = .tuple #[mapV (m.merge x).1 v', .int .i64 (m.merge x).2] ∧ IsSl rPiece (h.next ≤ ·) h' (m.merge x).1.ps v') := by
  obtain ⟨ad, c, rfl⟩ := hd.shape
  refine spec_go mixed Tryz.func96 rfl Tryz.results96 (n := Tryz.f96.ntmps) (by kernel_rfl) (by simp) ?_
  simp only [go_sem, simprocAttr]
  refine cl_gen fun k ek => ?_
  have q1 : h.quiet k := by rw [ek]; simp only [go_sem, simprocAttr]
  have g0 : k.get h.next = .cells [.int .i64 m.ver, .int .i64 m.n, .slice ad m.ps.length c] .rw := by rw [ek]; simp only [go_sem, simprocAttr]
  have g1 : k.get (h.next + 1) = .cells [.int .i64 0, .int .i64 0, .slice none 0 0] .rw := by rw [ek]; simp only [go_sem, simprocAttr]
  have l1 : h.next + 1 < k.next := by rw [ek]; simp
  clear ek
  refine cl_spec (find_ok (hd.quiet q1)) (fun _ _ _ hc => absurd hc (by decide +kernel)) ?_
  rintro u k1 ⟨rfl, q2⟩
  have q3 := q1.trans q2
  have g0' : k1.get h.next = _ := (q2.2 _ (by omega)).trans g0
  have g1' : k1.get (h.next + 1) = _ := (q2.2 _ l1).trans g1
  have l1' : h.next + 1 < k1.next := Nat.lt_of_lt_of_le l1 q2.1
  unfold SMap.merge
  have zset : k1.quiet (k1.set (h.next + 1) (.cells [.int .i64 0, .int .i64 0, .slice none 0 0] .rw)) := by
    rw [AHeap.set_get g1' (by simp)]; exact .refl _
  by_cases hz : (m.find x).2 = 0
  · rw [if_neg (fun e => e hz)]
    obtain ⟨hr, hb0, hbn, ei, p, hp, hpa, e1, e2, e3, e4, e5, e6⟩ := SMap.find_of hz
    have hlt := (List.getElem?_eq_some_iff.1 hp).1
    obtain ⟨b0, ofs, sp, cc, md, p', hA, _, hg, hpi, hp', hle, hdt, f0, f1, f2⟩ := (hd.quiet q3).atPiece hlt
    subst hA
    rw [hp] at hpi; cases hpi
    have hlen := hd.len
    dsimp only
    rw [hpa, ei, Int.toNat_natCast]
    by_cases hi0 : idxP x m.ps = 0
    · rw [if_pos (.inl hi0)]
      have hi0' : ((idxP x m.ps : Nat) : Int) = 0 := by omega
      simp only [go_sem, simprocAttr, g0', g1', hz, hi0', AHeap.get_set_self _ _ l1']
      exact ⟨q3.trans zset, _, rfl, .nil _ _ _⟩
    have hi0' : ¬ ((idxP x m.ps : Nat) : Int) = 0 := by omega
    by_cases hf : p.frm = x
    · rw [if_neg (fun e => e.elim hi0 fun e => e hf)]
      have hlt2 : idxP x m.ps - 1 < m.ps.length := by omega
      obtain ⟨b1, ofs1, sp1, cc1, md1, p2, hA1, _, hg1, hpi1, hp1', hle1, hdt1, f01, f11, f21⟩ := (hd.quiet q3).atPiece hlt2
      cases hA1
      rw [hg] at hg1; cases hg1
      have hpa2 : pieceAt m (idxP x m.ps - 1) = p2 := by unfold pieceAt; rw [List.getD, hpi1]; rfl
      rw [hpa2]
      have ew : IntKind.i64.wrap ((idxP x m.ps : Int) - 1) = ((idxP x m.ps - 1 : Nat) : Int) := by rw [wi64] <;> omega
      have ew1 : IntKind.i64.wrap ((idxP x m.ps : Int) + 1) = ((idxP x m.ps + 1 : Nat) : Int) := by rw [wi64] <;> omega
      by_cases hn : p2.node = p.node
      · rw [if_neg (fun e => e hn)]
        simp only [go_sem, simprocAttr, g0', g1', hz, hi0', hf, hlt, hlt2, hg, f0, f1, f2, f01, f11, f21, ew, ew1, hn]
        have qx : k1.quiet (k1.push (.cells [.int .i64 p2.frm, .int .i64 p.to, .int .i64 p.node] .rw)) := .push _ _
        have hI : IsSl rPiece (fun _ => True) (k1.push (.cells [.int .i64 p2.frm, .int .i64 p.to, .int .i64 p.node] .rw)) [⟨p2.frm, p.to, p.node⟩] (.slice (some ⟨k1.next, 0, none⟩) 1 1) :=
          insP rfl (by decide) (by
            intro y hy
            obtain rfl := List.mem_singleton.1 hy; exact ⟨hp1'.1, hp'.2.1, hp'.2.2⟩) (by simp; rfl)
        have q5 := q3.trans qx
        refine cl_spec (next_ok (m := m) (a := idxP x m.ps - 1) (b := idxP x m.ps + 1) (hd.quiet q5) hI hr.oks (show 1 ≤ 16 by decide) (by omega) (by omega) hr.1.1 hr.1.2.1) (fun u h' hp _ => hp.1) ?_
        rintro u k3 ⟨q6, v', rfl, hv'⟩
        obtain ⟨av, cv, rfl⟩ := hv'.shape
        have l3 : h.next + 1 < k3.next := Nat.lt_of_lt_of_le (Nat.lt_of_lt_of_le l1' qx.1) q6.1
        have g1x : k3.get (h.next + 1) = _ := ((qx.trans q6).2 _ l1').trans g1'
        simp only [go_sem, simprocAttr, g1x, AHeap.get_set_self _ _ l3]
        refine ⟨(q5.trans q6).set' (by omega) _, _, rfl, hv'.mono fun j hj hl => ?_⟩
        have := q3.1
        simp only [AHeap.next_push] at hj
        exact ⟨by omega, AHeap.get_set_ne _ _ (by omega)⟩
      · rw [if_pos hn]
        simp only [go_sem, simprocAttr, g0', g1', hz, hi0', hf, hlt, hlt2, hg, f0, f1, f2, f01, f11, f21, ew, ew1, hn, AHeap.get_set_self _ _ l1']
        exact ⟨q3.trans zset, _, rfl, .nil _ _ _⟩
    · rw [if_pos (.inr hf)]
      simp only [go_sem, simprocAttr, g0', g1', hz, hi0', hf, hlt, hg, f0, f1, f2, AHeap.get_set_self _ _ l1']
      exact ⟨q3.trans zset, _, rfl, .nil _ _ _⟩
  · rw [if_pos hz]
    simp only [go_sem, simprocAttr, g0', g1', hz, AHeap.get_set_self _ _ l1']
    exact ⟨q3.trans zset, _, rfl, .nil _ _ _⟩
theorem move_ok {m : SMap} {x n : Int} (hd : IsSl rPiece S h m.ps v) :
    Does Tryz.prog 60 #[mapV m v, .int .i64 x, .int .i64 n] h (fun u h' => h.quiet h' ∧ ∃ v', u = .tuple #[mapV (m.move x n).1 v', .int .i64 (m.move x n).2] ∧ IsSl rPiece (h.next ≤ ·) h' (m.move x n).1.ps v') := by
  obtain ⟨ad, c, rfl⟩ := hd.shape
  refine spec_go mixed Tryz.func60 rfl Tryz.results60 (n := Tryz.f60.ntmps) (by kernel_rfl) (by simp) ?_
  simp only [go_sem, simprocAttr]
  refine cl_gen fun k ek => ?_
  have q1 : h.quiet k := by rw [ek]; simp only [go_sem, simprocAttr]
  have g0 : k.get h.next = .cells [.int .i64 m.ver, .int .i64 m.n, .slice ad m.ps.length c] .rw := by rw [ek]; simp only [go_sem, simprocAttr]
  have g1 : k.get (h.next + 1) = .cells [.int .i64 0, .int .i64 0, .slice none 0 0] .rw := by rw [ek]; simp only [go_sem, simprocAttr]
  have l1 : h.next + 1 < k.next := by rw [ek]; simp
  clear ek
  refine cl_spec (find_ok (hd.quiet q1)) (fun _ _ _ hc => absurd hc (by decide +kernel)) ?_
  rintro u k1 ⟨rfl, q2⟩
  have q3 := q1.trans q2
  have g0' : k1.get h.next = _ := (q2.2 _ (by omega)).trans g0
  have g1' : k1.get (h.next + 1) = _ := (q2.2 _ l1).trans g1
  have l1' : h.next + 1 < k1.next := Nat.lt_of_lt_of_le l1 q2.1
  unfold SMap.move
  have zset : k1.quiet (k1.set (h.next + 1) (.cells [.int .i64 0, .int .i64 0, .slice none 0 0] .rw)) := by
    rw [AHeap.set_get g1' (by simp)]; exact .refl _
  by_cases hz : (m.find x).2 = 0
  · rw [if_neg (fun e => e hz)]
    obtain ⟨hr, hb0, hbn, ei, p, hp, hpa, e1, e2, e3, e4, e5, e6⟩ := SMap.find_of hz
    have hlt := (List.getElem?_eq_some_iff.1 hp).1
    obtain ⟨b0, ofs, sp, cc, md, p', hA, _, hg, hpi, hp', hle, hdt, f0, f1, f2⟩ := (hd.quiet q3).atPiece hlt
    subst hA
    rw [hp] at hpi; cases hpi
    have hlen := hd.len
    dsimp only
    rw [hpa, ei, Int.toNat_natCast]
    simp only [go_sem, simprocAttr, hz]
    refine cl_spec isNode_ok (fun _ _ _ hc => absurd hc (by decide +kernel)) ?_
    rintro u k1' ⟨rfl, rfl⟩
    by_cases hn : 0 ≤ n ∧ n < 16
    · rw [if_neg (fun e => e hn)]
      by_cases hs : p.node = n
      · rw [if_pos hs]
        simp only [go_sem, simprocAttr, g0', g1', hz, hn, hs, hlt, hg, f0, f1, f2, decide_true, AHeap.get_set_self _ _ l1']
        exact ⟨q3.trans zset, _, rfl, .nil _ _ _⟩
      · rw [if_neg hs]
        have ew1 : IntKind.i64.wrap ((idxP x m.ps : Int) + 1) = ((idxP x m.ps + 1 : Nat) : Int) := by rw [wi64] <;> omega
        simp only [go_sem, simprocAttr, g0', g1', hz, hn, hs, hlt, hg, hdt, hle, f0, f1, f2, decide_true, ew1]
        have qp : k1'.quiet (k1'.push (.cells [.int .i64 p.frm, .int .i64 p.to, .int .i64 n] .rw)) := .push _ _
        have gp0 : (k1'.push (.cells [.int .i64 p.frm, .int .i64 p.to, .int .i64 n] .rw)).get h.next = _ := (qp.2 _ (by omega)).trans g0'
        have gp1 : (k1'.push (.cells [.int .i64 p.frm, .int .i64 p.to, .int .i64 n] .rw)).get (h.next + 1) = _ := (qp.2 _ l1').trans g1'
        simp only [go_sem, simprocAttr, gp0, gp1, ew1]
        have qx : k1'.quiet ((k1'.push (.cells [.int .i64 p.frm, .int .i64 p.to, .int .i64 n] .rw)).push (.cells [.int .i64 p.frm, .int .i64 p.to, .int .i64 n] .rw)) := qp.push' _
        have hI : IsSl rPiece (fun _ => True) ((k1'.push (.cells [.int .i64 p.frm, .int .i64 p.to, .int .i64 n] .rw)).push (.cells [.int .i64 p.frm, .int .i64 p.to, .int .i64 n] .rw)) [⟨p.frm, p.to, n⟩] (.slice (some ⟨k1'.next + 1, 0, none⟩) 1 1) :=
          insP rfl (by decide) (by
            intro y hy
            obtain rfl := List.mem_singleton.1 hy; exact ⟨hp'.1, hp'.2.1, by unfold inI; dsimp only; omega⟩) (by simp only [go_sem, simprocAttr]; rfl)
        have q5 := q3.trans qx
        refine cl_spec (next_ok (m := m) (a := idxP x m.ps) (b := idxP x m.ps + 1) (hd.quiet q5) hI hr.oks (show 1 ≤ 16 by decide) (by omega) (by omega) hr.1.1 hr.1.2.1) (fun u h' hp _ => hp.1) ?_
        rintro u k3 ⟨q6, v', rfl, hv'⟩
        obtain ⟨av, cv, rfl⟩ := hv'.shape
        have l3 : h.next + 1 < k3.next := Nat.lt_of_lt_of_le (Nat.lt_of_lt_of_le l1' qx.1) q6.1
        have g1x : k3.get (h.next + 1) = _ := ((qx.trans q6).2 _ l1').trans g1'
        simp only [go_sem, simprocAttr, g1x, AHeap.get_set_self _ _ l3]
        refine ⟨(q5.trans q6).set' (by omega) _, _, rfl, hv'.mono fun j hj hl => ?_⟩
        have := q3.1
        simp only [AHeap.next_push] at hj
        exact ⟨by omega, AHeap.get_set_ne _ _ (by omega)⟩
    · rw [if_pos hn]
      simp only [go_sem, simprocAttr, g0', g1', hz, hn, decide_false, AHeap.get_set_self _ _ l1']
      exact ⟨q3.trans zset, _, rfl, .nil _ _ _⟩
  · rw [if_pos hz]
    simp only [go_sem, simprocAttr, g0', g1', hz, AHeap.get_set_self _ _ l1']
    exact ⟨q3.trans zset, _, rfl, .nil _ _ _⟩

/-! A map that is made. -/
def newP (n : Int) (k i : Nat) (x : Int) : Piece := ⟨(i : Int) * n.tdiv k + min (i : Int) (n.tmod k), ((i : Int) + 1) * n.tdiv k + min ((i : Int) + 1) (n.tmod k), x⟩
def SMap.new (n : Int) (nodes : List Int) : SMap × Int :=
  if n < 1 ∨ 1024 < n ∨ nodes = [] ∨ nodes.any (fun x => !decide (0 ≤ x ∧ x < 16)) = true then (.zero, 1) else if 16 < nodes.length ∨ n < nodes.length then (.zero, 6) else (⟨1, n, nodes.mapIdx fun i x => newP n nodes.length i x⟩, 0)
theorem new1_ok {x : Int} : Does Tryz.prog 84 #[.int .i64 x] h (fun u h' => u = .bool (!decide (0 ≤ x ∧ x < 16)) ∧ h' = h) := by
  refine spec_go mixed Tryz.func84 rfl Tryz.results84 (n := Tryz.f84.ntmps) (by kernel_rfl) (by simp) ?_
  simp only [go_sem, simprocAttr]
  refine cl_spec isNode_ok (fun _ _ _ hc => absurd hc (by decide +kernel)) ?_
  rintro u k ⟨rfl, rfl⟩
  simp only [go_sem, simprocAttr]
theorem contains_ok {xs : List Int} (hs : Ints S h xs v) : Does Tryz.prog 83 #[v, .func (.func 84) #[] #[]] h (fun u h' => u = .bool (xs.any fun x => !decide (0 ≤ x ∧ x < 16)) ∧ h' = h) := by
  have hi : Does Tryz.prog 126 #[v, .func (.func 84) #[] #[]] h (fun u h' => h' = h ∧ ∃ j : Int, u = .int .i64 j ∧ ((xs.any fun x => !decide (0 ≤ x ∧ x < 16)) = true ↔ 0 ≤ j)) := by
    obtain ⟨a, c, rfl⟩ := hs.shape
    have hl := hs.len
    refine spec_go mixed Tryz.func126 rfl Tryz.results126 (n := Tryz.f126.ntmps) (by kernel_rfl) (by simp) ?_
    simp only [go_sem, simprocAttr]
    refine go_loop (fun z ρ k => ∃ i : Nat, i ≤ xs.length ∧ z = xs.length - i ∧ k = h ∧ ((xs.take i).any fun x => !decide (0 ≤ x ∧ x < 16)) = false ∧ ρ 0 = .slice a xs.length c ∧ ρ 1 = .func (.func 84) #[] #[] ∧ ρ 7 = .int .i64 xs.length ∧ ρ 8 = .int .i64 i) xs.length ⟨0, by omega, by omega, rfl, by simp, by simp only [go_sem, simprocAttr]⟩ ?_
    rintro z ρ k ⟨i, hi, rfl, rfl, hno, r0, r1, r7, r8⟩
    simp only [go_sem, simprocAttr, r0, r1, r7, r8]
    refine cnd_decide (fun hy => ?_) (fun hy => ?_)
    · have h1 : i < xs.length := by omega
      have e8 : IntKind.i64.wrap ((i : Int) + 1) = ((i + 1 : Nat) : Int) := by rw [wi64] <;> omega
      obtain ⟨jb, off, sp, cc, md, x, hA, _, hg, hxi, _, hdt⟩ := hs.atI h1
      subst hA
      simp only [go_sem, simprocAttr, r0, r1, r7, r8, hg, h1, hdt]
      refine cl_spec new1_ok (fun _ _ _ hc => absurd hc (by decide +kernel)) ?_
      rintro u k' ⟨rfl, rfl⟩
      have et : xs.take (i + 1) = xs.take i ++ [x] := by rw [List.take_add_one, hxi]; rfl
      cases hb : (!decide (0 ≤ x ∧ x < 16)) with
      | true =>
        simp only [go_sem, simprocAttr]
        refine ⟨_, rfl, ⟨fun _ => by omega, fun _ => List.any_eq_true.2 ⟨x, List.mem_of_getElem? hxi, hb⟩⟩⟩
      | false =>
        simp only [go_sem, simprocAttr, r8, e8]
        refine Hold.mk ⟨xs.length - (i + 1), by omega, i + 1, by omega, rfl, rfl, ?_, by simp only [go_sem, simprocAttr, r0, r1, r7]⟩
        rw [et, List.any_append, hno, List.any_cons, hb]; rfl
    · have hi' : i = xs.length := by omega
      subst hi'
      rw [List.take_length] at hno
      simp only [go_sem, simprocAttr]
      exact ⟨_, rfl, by rw [hno]; constructor <;> intro e <;> first | cases e | omega⟩
  refine spec_go mixed Tryz.func83 rfl Tryz.results83 (n := Tryz.f83.ntmps) (by kernel_rfl) (by simp) ?_
  simp only [go_sem, simprocAttr]
  refine cl_spec hi (fun _ _ _ hc => absurd hc (by decide +kernel)) ?_
  rintro u k ⟨rfl, j, rfl, hj⟩
  simp only [go_sem, simprocAttr]
  refine bool_ext ?_
  rw [dec_t, hj]
theorem mapIdx_len {α β : Type} (f : Nat → α → β) (l : List α) (i : Nat) : ((l.take i).mapIdx f).length = min i l.length := by simp
theorem mapIdx_step {α β : Type} (f : Nat → α → β) {l : List α} {i : Nat} {x : α} (h : l[i]? = some x) : (l.take (i + 1)).mapIdx f = (l.take i).mapIdx f ++ [f i x] := by
  have hl := (List.getElem?_eq_some_iff.1 h).1
  rw [List.take_add_one, h, Option.toList_some, List.mapIdx_append]
  simp [Nat.min_eq_left (Nat.le_of_lt hl)]
theorem newP_ok {n : Int} {k i : Nat} {x : Int} (h1 : 1 ≤ n) (h2 : n ≤ 1024) (hk : k ≤ 16) (hk0 : 0 < k) (hi : i < k) (hx : inI x) : (newP n k i x).ok ∧ 0 ≤ n.tdiv k ∧ n.tdiv k ≤ 1024 ∧ 0 ≤ n.tmod k ∧ n.tmod k ≤ 1024 ∧ 0 ≤ (i : Int) * n.tdiv k ∧ (i : Int) * n.tdiv k ≤ 16384 ∧ 0 ≤ ((i : Int) + 1) * n.tdiv k ∧ ((i : Int) + 1) * n.tdiv k ≤ 16384 := by
  have hm : n.tmod k < k := Int.tmod_lt_of_pos _ (by omega)
  have hm0 : 0 ≤ n.tmod k := Int.tmod_nonneg _ (by omega)
  have hd0 : 0 ≤ n.tdiv k := Int.tdiv_nonneg (by omega) (by omega)
  have hd1 : n.tdiv k ≤ n := Int.tdiv_le_self _ (by omega)
  have p1 : 0 ≤ (i : Int) * n.tdiv k := Int.mul_nonneg (by omega) hd0
  have p2 : (i : Int) * n.tdiv k ≤ 16 * 1024 := Int.mul_le_mul (by omega) (by omega) hd0 (by omega)
  have p3 : 0 ≤ ((i : Int) + 1) * n.tdiv k := Int.mul_nonneg (by omega) hd0
  have p4 : ((i : Int) + 1) * n.tdiv k ≤ 16 * 1024 := Int.mul_le_mul (by omega) (by omega) hd0 (by omega)
  refine ⟨?_, by omega⟩
  unfold newP Piece.ok
  exact ⟨by unfold inI; dsimp only; omega, by unfold inI; dsimp only; omega, hx⟩
theorem new_ok {n : Int} {nodes : List Int} (hs : Ints S h nodes v) (hn : inI n) :
    Does Tryz.prog 36 #[.int .i64 n, v] h (fun u h' => h.quiet h' ∧ ∃ v', u = .tuple #[mapV (SMap.new n nodes).1 v', .int .i64 (SMap.new n nodes).2] ∧ IsSl rPiece (h.next ≤ ·) h' (SMap.new n nodes).1.ps v') := by
  obtain ⟨ad, c, rfl⟩ := hs.shape
  have hl := hs.len
  refine spec_go mixed Tryz.func36 rfl Tryz.results36 (n := Tryz.f36.ntmps) (by kernel_rfl) (by simp) ?_
  simp only [go_sem, simprocAttr]
  by_cases hA : n < 1
  · have e : SMap.new n nodes = (.zero, 1) := if_pos (.inl hA)
    rw [e]
    simp only [go_sem, simprocAttr, hA, decide_true]
    exact ⟨_, rfl, .nil _ _ _⟩
  by_cases hB : 1024 < n
  · have e : SMap.new n nodes = (.zero, 1) := if_pos (.inr (.inl hB))
    rw [e]
    simp only [go_sem, simprocAttr, hA, hB, decide_true, decide_false]
    exact ⟨_, rfl, .nil _ _ _⟩
  by_cases hC : nodes = []
  · have e : SMap.new n nodes = (.zero, 1) := if_pos (.inr (.inr (.inl hC)))
    rw [e]
    have hC' : ((nodes.length : Nat) : Int) = 0 := by rw [hC]; rfl
    simp only [go_sem, simprocAttr, hA, hB, hC', decide_true, decide_false]
    exact ⟨_, rfl, .nil _ _ _⟩
  have hC' : ¬ ((nodes.length : Nat) : Int) = 0 := fun e => hC (List.eq_nil_of_length_eq_zero (by omega))
  simp only [go_sem, simprocAttr, hA, hB, hC', decide_false]
  refine cl_spec (contains_ok (hs.quiet (.push _ _))) (fun _ _ _ hc => absurd hc (by decide +kernel)) ?_
  rintro u k ⟨rfl, rfl⟩
  by_cases hD : nodes.any (fun x => !decide (0 ≤ x ∧ x < 16)) = true
  · have e : SMap.new n nodes = (.zero, 1) := if_pos (.inr (.inr (.inr hD)))
    rw [e, hD]
    simp only [go_sem, simprocAttr]
    exact ⟨_, rfl, .nil _ _ _⟩
  have hcond : ¬ (n < 1 ∨ 1024 < n ∨ nodes = [] ∨ nodes.any (fun x => !decide (0 ≤ x ∧ x < 16)) = true) := by
    rintro (e | e | e | e)
    · exact hA e
    · exact hB e
    · exact hC e
    · exact hD e
  have hD' : nodes.any (fun x => !decide (0 ≤ x ∧ x < 16)) = false := by simpa using hD
  rw [hD']
  by_cases hE : 16 < nodes.length
  · have e : SMap.new n nodes = (.zero, 6) := by unfold SMap.new; rw [if_neg hcond, if_pos (.inl hE)]
    rw [e]
    have hE' : (16 : Int) < ((nodes.length : Nat) : Int) := by omega
    simp only [go_sem, simprocAttr, hE', decide_true]
    exact ⟨_, rfl, .nil _ _ _⟩
  have hE' : ¬ (16 : Int) < ((nodes.length : Nat) : Int) := by omega
  by_cases hF : n < nodes.length
  · have e : SMap.new n nodes = (.zero, 6) := by unfold SMap.new; rw [if_neg hcond, if_pos (.inr hF)]
    rw [e]
    simp only [go_sem, simprocAttr, hE', hF, decide_true, decide_false]
    exact ⟨_, rfl, .nil _ _ _⟩
  have e : SMap.new n nodes = (⟨1, n, nodes.mapIdx fun i x => newP n nodes.length i x⟩, 0) := by
    unfold SMap.new; rw [if_neg hcond, if_neg (fun e => e.elim hE hF)]
  rw [e]
  have hpos : 0 < nodes.length := List.length_pos_iff.2 hC
  simp only [go_sem, simprocAttr, hE', hF, decide_false]
  refine go_cutb (fun ρ k => ∃ pv, h.quiet k ∧ h.next + 2 ≤ k.next ∧ k.get h.next = .cells [.int .i64 0, .int .i64 0, .slice none 0 0] .rw ∧ k.get (h.next + 1) = .cells [.int .i64 1, .int .i64 n, pv] .rw ∧ Lst rPiece (h.next + 2) (fun _ => False) k (nodes.mapIdx fun i x => newP n nodes.length i x) pv ∧
    ρ 4 = .pointer (some ⟨h.next, 0, none⟩) ∧ ρ 7 = .pointer (some ⟨h.next + 1, 0, none⟩)) ?_ ?_
  · refine go_loop (fun z ρ k => ∃ (i : Nat) (pv : Value), i ≤ nodes.length ∧ z = nodes.length - i ∧ h.quiet k ∧ h.next + 2 ≤ k.next ∧ k.get h.next = .cells [.int .i64 0, .int .i64 0, .slice none 0 0] .rw ∧ k.get (h.next + 1) = .cells [.int .i64 1, .int .i64 n, pv] .rw ∧ Lst rPiece (h.next + 2) (fun _ => False) k ((nodes.take i).mapIdx fun i x => newP n nodes.length i x) pv ∧
      ρ 0 = .int .i64 n ∧ ρ 4 = .pointer (some ⟨h.next, 0, none⟩) ∧ ρ 6 = .int .i64 nodes.length ∧ ρ 7 = .pointer (some ⟨h.next + 1, 0, none⟩) ∧ ρ 39 = .slice ad nodes.length c ∧ ρ 40 = .int .i64 nodes.length ∧ ρ 41 = .int .i64 i) nodes.length
      ⟨0, .slice none 0 0, by omega, by omega, by simp only [go_sem, simprocAttr], by simp, by simp only [go_sem, simprocAttr], by simp only [go_sem, simprocAttr], .nil _ _ _ _, by simp only [go_sem, simprocAttr]⟩ ?_
    rintro z ρ k ⟨i, pv, hi, rfl, q, hnx, g0, g1, hL, r0, r4, r6, r7, r39, r40, r41⟩
    simp only [go_sem, simprocAttr, r0, r4, r6, r7, r39, r40, r41]
    refine cnd_decide (fun hy => ?_) (fun hy => ?_)
    · have h1 : i < nodes.length := by omega
      have e41 : IntKind.i64.wrap ((i : Int) + 1) = (i : Int) + 1 := by rw [wi64] <;> omega
      obtain ⟨jb, off, sp, cc, md, x, hA', _, hg, hxi, hxI, hdt⟩ := (hs.quiet q).atI h1
      subst hA'
      obtain ⟨hok, d0, d1, m0, m1, p1, p2, p3, p4⟩ := newP_ok (n := n) (k := nodes.length) (i := i) (x := x) (by omega) (by omega) (by omega) hpos h1 (inI_iff.2 hxI)
      have w1 : IntKind.i64.wrap (n.tdiv nodes.length) = n.tdiv nodes.length := by rw [wi64] <;> omega
      have w2 : IntKind.i64.wrap ((i : Int) * n.tdiv nodes.length) = (i : Int) * n.tdiv nodes.length := by rw [wi64] <;> omega
      have w3 : IntKind.i64.wrap (((i : Int) + 1) * n.tdiv nodes.length) = ((i : Int) + 1) * n.tdiv nodes.length := by rw [wi64] <;> omega
      have w4 : IntKind.i64.wrap ((i : Int) * n.tdiv nodes.length + min (i : Int) (n.tmod nodes.length)) = (i : Int) * n.tdiv nodes.length + min (i : Int) (n.tmod nodes.length) := by rw [wi64] <;> omega
      have w5 : IntKind.i64.wrap (((i : Int) + 1) * n.tdiv nodes.length + min ((i : Int) + 1) (n.tmod nodes.length)) = ((i : Int) + 1) * n.tdiv nodes.length + min ((i : Int) + 1) (n.tmod nodes.length) := by rw [wi64] <;> omega
      have hst := mapIdx_step (fun i x => newP n nodes.length i x) hxi
      have hml := mapIdx_len (fun i x => newP n nodes.length i x) nodes i
      obtain ⟨L, hLe⟩ : ∃ L, (nodes.take i).mapIdx (fun i x => newP n nodes.length i x) = L := ⟨_, rfl⟩
      rw [hLe] at hL hst hml
      obtain ⟨apv, cpv, rfl, hln⟩ := hL.len
      have qp : k.quiet (k.push (.cells (newP n nodes.length i x).cs .rw)) := .push _ _
      obtain ⟨v', k', ea, hL', hf', hb'⟩ := (hL.quiet qp).app1 (y := newP n nodes.length i x) (cs := (newP n nodes.length i x).cs) (bytes := 24) 3 rfl (rPiece_iff.2 ⟨rfl, hok⟩) (by omega) (by omega) (Nat.le_trans hnx qp.1)
      have hb2 : ∀ j, blk (.slice apv L.length cpv) = some j → h.next + 2 ≤ j := fun j e => (hL.blk_ge e).1
      have g0' : k'.get h.next = .cells [.int .i64 0, .int .i64 0, .slice none 0 0] .rw := (hf'.2 _ (Nat.lt_of_lt_of_le (by omega) qp.1) (fun e => by have := hb2 _ e; omega)).trans ((qp.2 _ (by omega)).trans g0)
      have g1' : k'.get (h.next + 1) = .cells [.int .i64 1, .int .i64 n, .slice apv L.length cpv] .rw := (hf'.2 _ (Nat.lt_of_lt_of_le (by omega) qp.1) (fun e => by have := hb2 _ e; omega)).trans ((qp.2 _ (by omega)).trans g1)
      have lk' : h.next + 1 < k'.next := by have := qp.1; have := hf'.1; omega
      have qk := q.trans qp
      have q2 : h.quiet k' := ⟨Nat.le_trans qk.1 hf'.1, fun j hj => (hf'.2 j (Nat.lt_of_lt_of_le hj qk.1) fun e => by have := hb2 _ e; omega).trans (qk.2 j hj)⟩
      obtain ⟨av, cv, rfl, _⟩ := hL'.len
      unfold Piece.cs newP at ea
      dsimp only at ea
      simp only [go_sem, simprocAttr, r0, r4, r6, r7, r39, r41, h1, hg, hdt, g1, e41, hC', w1, w2, w3, w4, w5, ea, g1', AHeap.get_set_self _ _ lk']
      refine Hold.mk ⟨nodes.length - (i + 1), by omega, i + 1, _, by omega, rfl, q2.set' (by omega) _, by simp; omega, by rw [AHeap.get_set_ne _ _ (by omega)]; exact g0', AHeap.get_set_self _ _ lk', ?_, by simp only [go_sem, simprocAttr, r0, r4, r6, r7, r39, r40]; simp⟩
      rw [hst]
      exact hL'.mono (Nat.le_refl _) (by simp) (fun j e _ _ => e.elim) fun j e _ => AHeap.get_set_ne _ _ (by have := (hL'.blk_ge e).1; omega)
    · have : i = nodes.length := by omega
      subst this
      rw [List.take_length] at hL
      simp only [go_sem, simprocAttr]
      exact Hold.mk ⟨pv, q, hnx, g0, g1, hL, by simp only [go_sem, simprocAttr, r4, r7]⟩
  · rintro ρ k ⟨pv, q, hnx, g0, g1, hL, r4, r7⟩
    obtain ⟨apv, cpv, rfl, hln⟩ := hL.len
    have lk : h.next < k.next := by omega
    simp only [go_sem, simprocAttr, r4, r7, g0, g1, AHeap.get_set_self _ _ lk]
    refine ⟨q.set' (Nat.le_refl _) _, _, rfl, ?_⟩
    refine (hL.isSl (S := (h.next + 2 ≤ ·)) (fun j e _ => e.elim) fun j e => e).mono fun j hj hl => ⟨by omega, AHeap.get_set_ne _ _ (by omega)⟩
end
end Go.Proofs.YtedpfdflolkpeaaGreatDoor.Pl
