/- net: the bytes of any message, and the message of any bytes. -/
import Derived.Test.YtclfemiiibgfdaaNeQ
set_option linter.unusedSimpArgs false
set_option linter.unusedVariables false
set_option linter.unnecessarySimpa false
set_option maxRecDepth 100000
namespace Go.Proofs.Ytclfemiiibgfdaa
open Go.AM
section
variable {h : AHeap} {v w : Value}
theorem packs_law {m : Msg} {b : List Nat} (hv : Bytes (· < h.next) h m.load v) (hb : Bytes (· < h.next) h b w) (hn : b.length ≤ 1048576) : Does Try.prog 8 #[.agg (m.cs v).toArray, w] h (fun u _ => u = .bool true) := by
  obtain ⟨a, c, rfl⟩ := hv.shape
  obtain ⟨a2, c2, rfl⟩ := hb.shape
  obtain ⟨X, ex, hX⟩ : ∃ (X : List Nat) (ex : Int), (packN m = some X ∧ ex = 0) ∨ (packN m = none ∧ X = [] ∧ ex = 1) := by
    cases packN m with
    | some x => exact ⟨x, 0, .inl ⟨rfl, rfl⟩⟩
    | none => exact ⟨[], 1, .inr ⟨rfl, rfl, rfl⟩⟩
  have hPk : ∀ {k k' : AHeap} {u : Value}, (k.quiet k' ∧ match packN m with
    | some x => ∃ w, u = .tuple #[w, .int .i64 0] ∧ Bytes (k.next ≤ ·) k' x w
    | none => u = .tuple #[.slice none 0 0, .int .i64 1]) → ∃ w, u = .tuple #[w, .int .i64 ex] ∧ Bytes (fun _ => True) k' X w := by
    rintro k k' u ⟨_, hp⟩
    rcases hX with ⟨e, rfl⟩ | ⟨e, rfl, rfl⟩
    · rw [e] at hp; obtain ⟨w, e1, e2⟩ := hp; exact ⟨w, e1, e2.weaken fun _ _ => trivial⟩
    · rw [e] at hp; exact ⟨_, hp, .nil _ _ _⟩
  obtain ⟨M, eu, hM⟩ : ∃ (M : Msg) (eu : Int), (unpackN b = .ok M ∧ eu = 0) ∨ (unpackN b = .error eu ∧ M = Msg.zero) := by
    cases unpackN b with
    | ok x => exact ⟨x, 0, .inl ⟨rfl, rfl⟩⟩
    | error e => exact ⟨Msg.zero, e, .inr ⟨rfl, rfl⟩⟩
  have hUn : ∀ {k k' : AHeap} {u : Value}, (k.quiet k' ∧ match unpackN b with
    | .ok m => ∃ w, u = .tuple #[.agg (m.cs w).toArray, .int .i64 0] ∧ Bytes (k.next ≤ ·) k' m.load w
    | .error e => u = .tuple #[.agg (Msg.zero.cs (.slice none 0 0)).toArray, .int .i64 e]) → ∃ w, u = .tuple #[.agg (M.cs w).toArray, .int .i64 eu] ∧ Bytes (fun _ => True) k' M.load w := by
    rintro k k' u ⟨_, hp⟩
    rcases hM with ⟨e, rfl⟩ | ⟨e, rfl⟩
    · rw [e] at hp; obtain ⟨w, e1, e2⟩ := hp; exact ⟨w, e1, e2.weaken fun _ _ => trivial⟩
    · rw [e] at hp; exact ⟨_, hp, .nil _ _ _⟩
  refine spec_go mixed Try.func8 rfl Try.results8 (n := Try.f8.ntmps) (by kernel_rfl) (by simp) ?_
  simp only [go_sem, simprocAttr, cs_len, cs_one, cs_take, cs_put]
  have q0 : h.quiet (h.push (.cells (m.cs (.slice a m.load.length c)) .rw)) := .push _ _
  have g0 : (h.push (.cells (m.cs (.slice a m.load.length c)) .rw)).get h.next = .cells (m.cs (.slice a m.load.length c)) .rw := by simp
  generalize h.push (.cells (m.cs (.slice a m.load.length c)) .rw) = k0 at q0 g0
  have hv0 := (hv.weaken (S' := fun _ => True) (fun _ _ => trivial)).quiet q0
  have hb0 := (hb.weaken (S' := fun _ => True) (fun _ _ => trivial)).quiet q0
  refine cl_spec (Pack_ok hv0) (fun u h' hp _ => hp.1) ?_
  rintro u k1 hp
  obtain ⟨xw, rfl, hx1⟩ := hPk hp
  have q1 := hp.1
  clear hp
  have g1 := (q1.2 _ (AHeap.lt_of_alive k0 (by rw [g0]; simp))).trans g0
  have hv1 := hv0.quiet q1
  have hb1 := hb0.quiet q1
  simp only [go_sem, simprocAttr, g1, cs_len, cs_one, cs_take, cs_put]
  refine cl_spec (rPack_ok hv1) (fun u h' hp _ => hp.1) ?_
  rintro u k2 hp
  obtain ⟨yw, rfl, hy2⟩ := hPk hp
  have q2 := hp.1
  clear hp
  have g2 := (q2.2 _ (AHeap.lt_of_alive k1 (by rw [g1]; simp))).trans g1
  have hv2 := hv1.quiet q2
  have hb2 := hb1.quiet q2
  have hx2 := hx1.quiet q2
  simp only [go_sem, simprocAttr]
  refine cl_spec (Unpack_ok hb2 (by omega)) (fun u h' hp _ => hp.1) ?_
  rintro u k3 hp
  obtain ⟨uw, rfl, hu3⟩ := hUn hp
  have q3 := hp.1
  clear hp
  have g3 := (q3.2 _ (AHeap.lt_of_alive k2 (by rw [g2]; simp))).trans g2
  obtain ⟨au, cu, rfl⟩ := hu3.shape
  simp only [go_sem, simprocAttr, cs_len, cs_one, cs_take, cs_put]
  have q4 : k3.quiet (k3.push (.cells (M.cs (.slice au M.load.length cu)) .rw)) := .push _ _
  have g4 : (k3.push (.cells (M.cs (.slice au M.load.length cu)) .rw)).get k3.next = .cells (M.cs (.slice au M.load.length cu)) .rw := by simp
  have g40 := (q4.2 _ (AHeap.lt_of_alive k3 (by rw [g3]; simp))).trans g3
  generalize k3.push (.cells (M.cs (.slice au M.load.length cu)) .rw) = k4 at q4 g4 g40
  have q24 := q3.trans q4
  have hb4 := hb2.quiet q24
  refine cl_spec (rUnpack_ok hb4 (by omega)) (fun u h' hp _ => hp.1) ?_
  rintro u k5 hp
  obtain ⟨vw, rfl, hv5⟩ := hUn hp
  have q5 := hp.1
  clear hp
  have g5 := (q5.2 _ (AHeap.lt_of_alive k4 (by rw [g4]; simp))).trans g4
  have g50 := (q5.2 _ (AHeap.lt_of_alive k4 (by rw [g40]; simp))).trans g40
  obtain ⟨av, cv, rfl⟩ := hv5.shape
  simp only [go_sem, simprocAttr, cs_len, cs_one, cs_take, cs_put]
  have q6 : k5.quiet (k5.push (.cells (M.cs (.slice av M.load.length cv)) .rw)) := .push _ _
  have g6 : (k5.push (.cells (M.cs (.slice av M.load.length cv)) .rw)).get k5.next = .cells (M.cs (.slice av M.load.length cv)) .rw := by simp
  have g6u := (q6.2 _ (AHeap.lt_of_alive k5 (by rw [g5]; simp))).trans g5
  have g60 := (q6.2 _ (AHeap.lt_of_alive k5 (by rw [g50]; simp))).trans g50
  generalize k5.push (.cells (M.cs (.slice av M.load.length cv)) .rw) = k6 at q6 g6 g6u g60
  have q26 := (q24.trans q5).trans q6
  have hX6 := hx2.quiet q26
  have hY6 := hy2.quiet q26
  have hm6 := hv2.quiet q26
  have hu6 := hu3.quiet ((q4.trans q5).trans q6)
  have hv6 := hv5.quiet q6
  refine cl_spec (same_ok hX6 hY6) (fun _ _ _ hc => absurd hc (by decide +kernel)) ?_
  rintro u k7 ⟨rfl, rfl⟩
  simp only [go_sem, simprocAttr, eq_self, decide_true, g6, g6u, g60, cs_len, cs_one, cs_take, cs_put]
  refine cl_spec (rSame_ok hu6 hv6) (fun u h' hp _ => hp.2) ?_
  rintro u k8 ⟨rfl, q8⟩
  have g8 := (q8.2 _ (AHeap.lt_of_alive k7 (by rw [g6]; simp))).trans g6
  have g8u := (q8.2 _ (AHeap.lt_of_alive k7 (by rw [g6u]; simp))).trans g6u
  have g80 := (q8.2 _ (AHeap.lt_of_alive k7 (by rw [g60]; simp))).trans g60
  simp only [go_sem, simprocAttr, eq_self, decide_true, g8, g8u, g80, cs_len, cs_one, cs_take, cs_put]
  refine cl_spec (nSame_ok (hm6.quiet q8) (hu6.quiet q8)) (fun u h' hp _ => hp.2) ?_
  rintro u k9 ⟨rfl, q9⟩
  have g9 := (q9.2 _ (AHeap.lt_of_alive k8 (by rw [g8]; simp))).trans g8
  have g9u := (q9.2 _ (AHeap.lt_of_alive k8 (by rw [g8u]; simp))).trans g8u
  have g90 := (q9.2 _ (AHeap.lt_of_alive k8 (by rw [g80]; simp))).trans g80
  have q89 := q8.trans q9
  simp only [go_sem, simprocAttr, g9, g9u, g90, cs_len, cs_one, cs_take, cs_put]
  refine cl_spec (rSame_ok (hm6.quiet q89) (hv6.quiet q89)) (fun u h' hp _ => hp.2) ?_
  rintro u k10 ⟨rfl, q10⟩
  have g100 := (q10.2 _ (AHeap.lt_of_alive k9 (by rw [g90]; simp))).trans g90
  have q810 := q89.trans q10
  simp only [go_sem, simprocAttr, eq_self, decide_true, g100, cs_len, cs_one, cs_take, cs_put]
  refine cl_spec (nSame_ok (hm6.quiet q810) (hm6.quiet q810)) (fun u h' hp _ => hp.2) ?_
  rintro u k11 ⟨rfl, q11⟩
  simp only [go_sem, simprocAttr, eq_self, decide_true]
  refine cl_spec alive_ok (fun u h' hp _ => hp.2) ?_
  rintro u k12 ⟨rfl, q12⟩
  simp only [go_sem, simprocAttr, eq_self, decide_true]
end
end Go.Proofs.Ytclfemiiibgfdaa
