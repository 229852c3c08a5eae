/- net: what is packed is unpacked, and packed again; what is nobody's. -/
import Derived.Test.YtclfemiiibgfdaaNeK
set_option linter.unusedSimpArgs false
set_option linter.unusedVariables false
set_option linter.unnecessarySimpa false
set_option maxRecDepth 100000
namespace Go.Proofs.Ytclfemiiibgfdaa
open Go.AM

def rMsg : Rep Msg := (Rep.pair rI (.pair rI (.pair rI (.pair rI (.pair rI (.pair rI rB.list)))))).via fun m => (m.fr, m.dst, m.kd, m.ep, m.sq, m.ak, m.load)
def inI64 (x : Int) : Prop := -9223372036854775808 ≤ x ∧ x ≤ 9223372036854775807
theorem rMsg_iff {S : Nat → Prop} {h : AHeap} {m : Msg} {cs : List Value} : rMsg.R S h m cs ↔ ∃ v, cs = m.cs v ∧ (inI64 m.fr ∧ inI64 m.dst ∧ inI64 m.kd ∧ inI64 m.ep ∧ inI64 m.sq ∧ inI64 m.ak) ∧ Bytes S h m.load v := by
  constructor
  · rintro ⟨c1, c2, rfl, ⟨rfl, h1⟩, c3, c4, rfl, ⟨rfl, h2⟩, c5, c6, rfl, ⟨rfl, h3⟩, c7, c8, rfl, ⟨rfl, h4⟩, c9, c10, rfl, ⟨rfl, h5⟩, c11, c12, rfl, ⟨rfl, h6⟩, v, rfl, hv⟩
    exact ⟨v, rfl, ⟨h1, h2, h3, h4, h5, h6⟩, hv⟩
  · rintro ⟨v, rfl, ⟨h1, h2, h3, h4, h5, h6⟩, hv⟩
    exact ⟨_, _, rfl, ⟨rfl, h1⟩, _, _, rfl, ⟨rfl, h2⟩, _, _, rfl, ⟨rfl, h3⟩, _, _, rfl, ⟨rfl, h4⟩, _, _, rfl, ⟨rfl, h5⟩, _, _, rfl, ⟨rfl, h6⟩, v, rfl, hv⟩
theorem cs_len (m : Msg) (v : Value) : (m.cs v).length = 7 := rfl
theorem cs_one (m : Msg) (a : Option Addr) (n c : Nat) : (m.cs (.slice a n c)).all one = true := rfl
theorem cs_take (m : Msg) (v : Value) : (m.cs v).take 7 = m.cs v := rfl
theorem cs_zero : Msg.zero.cs (.slice none 0 0) = [.int .i64 0, .int .i64 0, .int .i64 0, .int .i64 0, .int .i64 0, .int .i64 0, .slice none 0 0] := rfl
theorem cs_put (m : Msg) (v : Value) : putCells [.int .i64 0, .int .i64 0, .int .i64 0, .int .i64 0, .int .i64 0, .int .i64 0, .slice none 0 0] 0 (m.cs v) = m.cs v := rfl
section
variable {h : AHeap} {Z S : Nat → Prop} {v w : Value} {id : Nat} {gl : List G}
theorem zero_load : Bytes S h Msg.zero.load (.slice none 0 0) := .nil _ _ _
theorem back_law {m : Msg} (hv : Bytes (· < h.next) h m.load v) : Does Try.prog 3 #[.agg (m.cs v).toArray] h (fun u _ => u = .bool true) := by
  obtain ⟨a, c, rfl⟩ := hv.shape
  refine spec_go mixed Try.func3 rfl Try.results3 (n := Try.f3.ntmps) (by kernel_rfl) (by simp) ?_
  simp only [go_sem, simprocAttr, cs_len, cs_one, cs_take, cs_put]
  have q0 : h.quiet (h.push (.cells (m.cs (.slice a m.load.length c)) .rw)) := .push _ _
  have g0 : (h.push (.cells (m.cs (.slice a m.load.length c)) .rw)).get h.next = .cells (m.cs (.slice a m.load.length c)) .rw := by simp
  generalize h.push (.cells (m.cs (.slice a m.load.length c)) .rw) = k0 at q0 g0
  refine cl_spec (Pack_ok (hv.quiet q0)) (fun u h' hp _ => hp.1) ?_
  rintro u k ⟨q, hp⟩
  have g1 := (q.2 _ (AHeap.lt_of_alive k0 (by rw [g0]; simp))).trans g0
  by_cases hr : m.right
  · rw [show packN m = some (sealN m.encode) from if_pos hr] at hp
    obtain ⟨x, rfl, hx⟩ := hp
    simp only [go_sem, simprocAttr]
    have hln : (sealN m.encode).length ≤ 140737488355328 := by
      rw [sealN_len, ← Msg.fst_end, List.length_append, Msg.fst_len (Nat.le_refl _), partsB_length]
      have := (m.right_iff.1 hr).2
      simp; omega
    refine cl_spec (Unpack_ok hx hln) (fun u h' hp _ => hp.1) ?_
    rintro u k2 ⟨q2, hp⟩
    rw [unpack_pack hr] at hp
    obtain ⟨y, rfl, hy⟩ := hp
    have g2 := (q2.2 _ (AHeap.lt_of_alive k (by rw [g1]; simp))).trans g1
    obtain ⟨a2, c2, rfl⟩ := hy.shape
    simp only [go_sem, simprocAttr, cs_len, cs_one, cs_take, cs_put]
    have q3 : k2.quiet (k2.push (.cells (m.cs (.slice a2 m.load.length c2)) .rw)) := .push _ _
    have g3 := (q3.2 _ (AHeap.lt_of_alive k2 (by rw [g2]; simp))).trans g2
    simp only [go_sem, simprocAttr, cs_len, cs_one, cs_take, cs_put, g3]
    refine cl_spec (rSame_ok (m := m) (n := m) (S := fun _ => True) ((hy.quiet q3).weaken fun _ _ => trivial) ((hv.quiet (((q0.trans q).trans q2).trans q3)).weaken fun _ _ => trivial)) (fun u h' hp _ => hp.2) ?_
    rintro u k4 ⟨rfl, q4⟩
    simp only [go_sem, simprocAttr, eq_self, decide_true]
    refine cl_spec alive_ok (fun u h' hp _ => hp.2) ?_
    rintro u k5 ⟨rfl, q5⟩
    simp only [go_sem, simprocAttr, eq_self, decide_true]
  · rw [show packN m = none from if_neg hr] at hp
    obtain rfl := hp
    simp only [go_sem, simprocAttr]
    refine cl_spec alive_ok (fun u h' hp _ => hp.2) ?_
    rintro u k5 ⟨rfl, q5⟩
    simp only [go_sem, simprocAttr, eq_self, decide_true]
theorem openN_le {b x : List Nat} (h : openN b = some x) : x.length ≤ b.length := by have := (openN_some h).2; omega
theorem one_law {b : List Nat} (hv : Bytes (· < h.next) h b v) (hn : b.length ≤ 1048576) : Does Try.prog 4 #[v] h (fun u _ => u = .bool true) := by
  obtain ⟨a, c, rfl⟩ := hv.shape
  refine spec_go mixed Try.func4 rfl Try.results4 (n := Try.f4.ntmps) (by kernel_rfl) (by simp) ?_
  simp only [go_sem, simprocAttr]
  refine cl_spec (Unpack_ok hv (by omega)) (fun u h' hp _ => hp.1) ?_
  rintro u k ⟨q, hp⟩
  cases hu : unpackN b with
  | ok m =>
    rw [hu] at hp
    obtain ⟨hr, hbe⟩ := pack_unpack (fun y hy => by have := hv.vals rfl y hy; rw [u8_max] at this; omega) hu
    obtain ⟨y, rfl, hy⟩ := hp
    obtain ⟨a2, c2, rfl⟩ := hy.shape
    simp only [go_sem, simprocAttr, cs_len, cs_one, cs_take, cs_put]
    have q3 : k.quiet (k.push (.cells (m.cs (.slice a2 m.load.length c2)) .rw)) := .push _ _
    refine cl_spec (Pack_ok (hy.quiet q3)) (fun u h' hp _ => hp.1) ?_
    rintro u k2 ⟨q2, hp⟩
    rw [show packN m = some (sealN m.encode) from if_pos hr, ← hbe] at hp
    obtain ⟨x, rfl, hx⟩ := hp
    simp only [go_sem, simprocAttr]
    refine cl_spec (same_ok (S := fun _ => True) (hx.weaken fun _ _ => trivial) ((hv.quiet ((q.trans q3).trans q2)).weaken fun _ _ => trivial)) (fun _ _ _ hc => absurd hc (by decide +kernel)) ?_
    rintro u k4 ⟨rfl, rfl⟩
    simp only [go_sem, simprocAttr, eq_self, decide_true]
    refine cl_spec alive_ok (fun u h' hp _ => hp.2) ?_
    rintro u k5 ⟨rfl, q5⟩
    simp only [go_sem, simprocAttr, eq_self, decide_true]
  | error e =>
    rw [hu] at hp
    obtain rfl := hp
    have he : ¬ e = 0 := by
      unfold unpackN at hu
      split at hu
      · cases hu; decide
      · split at hu
        · cases hu
        · cases hu; decide
    simp only [go_sem, simprocAttr, cs_len, cs_one, cs_take, cs_put, he, decide_false]
    rw [← cs_zero]
    refine cl_spec (rSame_ok (m := Msg.zero) (n := Msg.zero) zero_load (S := fun _ => True) zero_load) (fun u h' hp _ => hp.2) ?_
    rintro u k4 ⟨rfl, q4⟩
    simp only [go_sem, simprocAttr, eq_self, decide_true]
    refine cl_spec alive_ok (fun u h' hp _ => hp.2) ?_
    rintro u k5 ⟨rfl, q5⟩
    simp only [go_sem, simprocAttr, eq_self, decide_true]
end
end Go.Proofs.Ytclfemiiibgfdaa
