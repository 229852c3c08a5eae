/- barrier: two laws, for every input of the bound's size. -/
import Derived.Test.YtbcgipcgcjkfcaaBaD
import Derived.Test.YtbcgipcgcjkfcaaBaN
import Derived.Test.YtbcgipcgcjkfcaaAmLawC
import Derived.Test.YtbcgipcgcjkfcaaRows
set_option linter.unusedSimpArgs false
set_option linter.unusedVariables false
set_option linter.unnecessarySimpa false
set_option maxRecDepth 100000
namespace Go.Proofs.Ytbcgipcgcjkfcaa
open Go.AM
theorem bulkOk {H : Type} : BulkOk (H := H) Rows.uptoBulk Rows.uptoBulkAll where
  lit l := by cases l <;> simp [Rows.uptoBulk]
  str s := by simp [Rows.uptoBulk]
  nil := by simp [Rows.uptoBulk]
  slice e s := by simp [Rows.uptoBulk]
  agg p := by simp [Rows.uptoBulk]
  none := by simp [Rows.uptoBulkAll]
  cons d r := by simp [Rows.uptoBulkAll]
theorem bulk_append {H : Type} (l r : List (DataW H)) : Rows.uptoBulkAll (l ++ r) = Rows.uptoBulkAll l + Rows.uptoBulkAll r := by
  induction l with
  | nil => simp [Rows.uptoBulkAll]
  | cons x l ih => simp only [List.cons_append, Rows.uptoBulkAll, ih]; omega
theorem bulk_of {H : Type} {ds gs : List (DataW H)} (hk : Rows.uptoSmall H (ds ++ gs) = true) : Rows.uptoBulkAll ds ≤ 1048576 := by
  have h : Rows.uptoBulkAll (ds ++ gs) ≤ 1048576 := of_decide_eq_true hk
  rw [bulk_append] at h; omega
theorem own : ownKnob Try.prog.godebug = none := by kernel_rfl
theorem laidOut : laidOutB Try.prog = true := by kernel_rfl
theorem len_one {α : Type} (l : List α) : (l.map fun _ => 1).sum = l.length := by
  induction l with
  | nil => rfl
  | cons x l ih => simp [ih]; omega
theorem rAsk_reads : rAsk.Reads (.pcons 1 (.int .i64) (.pcons 1 (.int .i64) (.pcons 1 .bool .pnil))) (fun _ => 1 + (1 + 1)) :=
  Reads.via (Reads.pair (Reads.int _) (Reads.pair (Reads.int _) (Reads.last Reads.bool))) (g := fun x => ⟨x.1, x.2.1, x.2.2⟩) (fun _ => rfl)
theorem map_bound {α : Type} (l : List α) (f : α → Nat) (hf : ∀ x, 1 ≤ f x) : l.length ≤ (l.map f).sum := by
  induction l with
  | nil => simp
  | cons x l ih => have := hf x; simp only [List.length_cons, List.map_cons, List.sum_cons]; omega
theorem BarrierAgents_shapes : shapesOf Try.prog Try.f5.params.toList = some [(false, (.slice 3 (.pcons 1 (.int .i64) (.pcons 1 (.int .i64) (.pcons 1 .bool .pnil))))), (false, (.int .i64))] := by kernel_rfl
theorem BarrierAgents_does {H : Type} {h : AHeap} {avs : List Value} {ds : List (DataW H)} (hr : RdA h [(false, (.slice 3 (.pcons 1 (.int .i64) (.pcons 1 (.int .i64) (.pcons 1 .bool .pnil))))), (false, (.int .i64))] avs ds) (hb : Rows.uptoBulkAll ds ≤ 1048576) :
    Does Try.prog 5 avs.toArray h fun v _ => v = .bool true := by
  obtain ⟨x1, cs1, vs, ds', rfl, g1, hr, b1⟩ := hr.cons_inv (Reads.list rAsk_reads rfl) bulkOk
  obtain ⟨x2, cs2, vs, ds', rfl, g2, hr, b2⟩ := hr.cons_inv (Reads.int _) bulkOk
  rw [hr.nil_inv]
  obtain ⟨v, rfl, hs⟩ := g1
  obtain ⟨rfl, k2⟩ := g2
  have m1 := map_bound x1 (fun _ => 1 + (1 + 1)) (fun _ => by omega)
  exact agents_ok hs (by omega)
theorem BarrierAgents_contract (H : Type) (enc : TypeId × Value → H) (W : World) (base : Nat) (args : Array Value) (ds gs : List (DataW H)) (before : List MemPlace)
    (hval : ∀ (j : Nat) t v, Try.f5.params[j]? = some t → args[j]? = some v → Value.okWide Try.prog W .any base t v)
    (hW : DataW.Whole enc Try.prog Try.f5.params.toList Rows.barrierAgentsSpec.vars false W args.toList ds gs before) (hk : Rows.uptoSmall H (ds ++ gs) = true) :
    Calls Try.prog 5 args W fun e W' => ∃ v, e = .returned v ∧ Rows.barrierAgentsSpec.post enc Try.prog Try.f5 false true false false W args v W' :=
  law_contract (tb := 4) laidOut (by kernel_rfl) (by kernel_rfl) Try.underlying4 rfl BarrierAgents_shapes (fun hl => by match ds, hl with | [d0, d1], _ => rfl) hval hW (fun h avs hr => BarrierAgents_does hr (bulk_of hk))
set_option maxRecDepth 100000 in
theorem BarrierAgents_lifted (os : Os) (started : os.Started) (H : Type) (enc : TypeId × Value → H) (F : Stop.Interp) :
    ReturnsInHanded {} Try.checked os 5 .any ((Rows.OpenSpec.upto Rows.barrierAgentsSpec).pre6 enc Try.prog Try.f5 Rows.barrierAgentsUptoRow.domain false) (((Rows.OpenSpec.upto Rows.barrierAgentsSpec).at F).post enc Try.prog Try.f5 false true false false) := by
  refine returnsInHanded_of_cond (C := Try.checked) (s := Rows.OpenSpec.upto Rows.barrierAgentsSpec) (k := Rows.uptoSmall) rfl own started (by kernel_rfl) Try.func5
    (OpenSpec.witness (enc := enc) (C := Try.checked) (s := Rows.OpenSpec.upto Rows.barrierAgentsSpec) (k := Rows.uptoSmall) rfl false ⟨#[], #[.slice none 0 0, .int .i64 0], []⟩ 8 (by kernel_rfl) (by kernel_rfl) (by kernel_rfl)
      (x := ([.nil, .lit (.int .i64 0)], [], [])) (by kernel_rfl) rfl (by kernel_rfl)) ?_
  intro W base args ds gs before hval hW _ hk _
  exact BarrierAgents_contract H enc W base args ds gs before hval hW hk
theorem BarrierAgents_proved : Rows.BarrierAgentsUptoSaid :=
  OpenClaim.holds_of_cond 5 Try.f5 rfl rfl rfl rfl rfl rfl rfl ⟨rfl, rfl, rfl, rfl, rfl⟩ rfl rfl rfl rfl rfl (by kernel_rfl) Try.func5 (by kernel_rfl)
    (of_decide_eq_true (by kernel_rfl)) (by unfold Func.isWrapper; first | (rw [if_pos (by decide +kernel)]; kernel_rfl) | (rw [if_neg (by decide +kernel)]; exact ⟨rfl, rfl⟩))
    (fun os started H enc _ F => BarrierAgents_lifted os started H enc F)

theorem BarrierNobody_shapes : shapesOf Try.prog Try.f9.params.toList = some [(true, (.pcons 1 (.int .u8) (.pcons 1 (.int .i64) (.pcons 1 (.int .i64) (.pcons 1 (.int .i64) .pnil))))), (true, (.pcons 1 (.int .i64) (.pcons 1 (.int .i64) (.pcons 1 .bool .pnil))))] := by kernel_rfl
theorem BarrierNobody_does {H : Type} {h : AHeap} {avs : List Value} {ds : List (DataW H)} (hr : RdA h [(true, (.pcons 1 (.int .u8) (.pcons 1 (.int .i64) (.pcons 1 (.int .i64) (.pcons 1 (.int .i64) .pnil))))), (true, (.pcons 1 (.int .i64) (.pcons 1 (.int .i64) (.pcons 1 .bool .pnil))))] avs ds) (hb : Rows.uptoBulkAll ds ≤ 1048576) :
    Does Try.prog 9 avs.toArray h fun v _ => v = .bool true := by
  obtain ⟨x1, cs1, vs, ds', rfl, g1, hr, b1⟩ := hr.cons_inv (Reads.pair (Reads.nat (by decide)) (Reads.pair (Reads.int _) (Reads.pair (Reads.int _) (Reads.last (Reads.int _))))) bulkOk
  obtain ⟨x2, cs2, vs, ds', rfl, g2, hr, b2⟩ := hr.cons_inv rAsk_reads bulkOk
  rw [hr.nil_inv]
  obtain ⟨c1, c2, rfl, ⟨rfl, k1⟩, c3, c4, rfl, ⟨rfl, k2⟩, c5, c6, rfl, ⟨rfl, k3⟩, ⟨rfl, k4⟩⟩ := g1
  obtain ⟨rfl, k5, k6⟩ := rAsk_iff.1 g2
  exact nobody_ok
theorem BarrierNobody_contract (H : Type) (enc : TypeId × Value → H) (W : World) (base : Nat) (args : Array Value) (ds gs : List (DataW H)) (before : List MemPlace)
    (hval : ∀ (j : Nat) t v, Try.f9.params[j]? = some t → args[j]? = some v → Value.okWide Try.prog W .any base t v)
    (hW : DataW.Whole enc Try.prog Try.f9.params.toList Rows.barrierNobodySpec.vars false W args.toList ds gs before) (hk : Rows.uptoSmall H (ds ++ gs) = true) :
    Calls Try.prog 9 args W fun e W' => ∃ v, e = .returned v ∧ Rows.barrierNobodySpec.post enc Try.prog Try.f9 false true false false W args v W' :=
  law_contract (tb := 4) laidOut (by kernel_rfl) (by kernel_rfl) Try.underlying4 rfl BarrierNobody_shapes (fun hl => by match ds, hl with | [d0, d1], _ => rfl) hval hW (fun h avs hr => BarrierNobody_does hr (bulk_of hk))
set_option maxRecDepth 100000 in
theorem BarrierNobody_lifted (os : Os) (started : os.Started) (H : Type) (enc : TypeId × Value → H) (F : Stop.Interp) :
    ReturnsInHanded {} Try.checked os 9 .any ((Rows.OpenSpec.upto Rows.barrierNobodySpec).pre6 enc Try.prog Try.f9 Rows.barrierNobodyUptoRow.domain false) (((Rows.OpenSpec.upto Rows.barrierNobodySpec).at F).post enc Try.prog Try.f9 false true false false) := by
  refine returnsInHanded_of_cond (C := Try.checked) (s := Rows.OpenSpec.upto Rows.barrierNobodySpec) (k := Rows.uptoSmall) rfl own started (by kernel_rfl) Try.func9
    (OpenSpec.witness (enc := enc) (C := Try.checked) (s := Rows.OpenSpec.upto Rows.barrierNobodySpec) (k := Rows.uptoSmall) rfl false ⟨#[], #[.agg #[.int .u8 0, .int .i64 0, .int .i64 0, .int .i64 0], .agg #[.int .i64 0, .int .i64 0, .bool false]], []⟩ 8 (by kernel_rfl) (by kernel_rfl) (by kernel_rfl)
      (x := ([.agg [.lit (.int .u8 0), .lit (.int .i64 0), .lit (.int .i64 0), .lit (.int .i64 0)], .agg [.lit (.int .i64 0), .lit (.int .i64 0), .lit (.bool false)]], [], [])) (by kernel_rfl) rfl (by kernel_rfl)) ?_
  intro W base args ds gs before hval hW _ hk _
  exact BarrierNobody_contract H enc W base args ds gs before hval hW hk
theorem BarrierNobody_proved : Rows.BarrierNobodyUptoSaid :=
  OpenClaim.holds_of_cond 9 Try.f9 rfl rfl rfl rfl rfl rfl rfl ⟨rfl, rfl, rfl, rfl, rfl⟩ rfl rfl rfl rfl rfl (by kernel_rfl) Try.func9 (by kernel_rfl)
    (of_decide_eq_true (by kernel_rfl)) (by unfold Func.isWrapper; first | (rw [if_pos (by decide +kernel)]; kernel_rfl) | (rw [if_neg (by decide +kernel)]; exact ⟨rfl, rfl⟩))
    (fun os started H enc _ F => BarrierNobody_lifted os started H enc F)

end Go.Proofs.Ytbcgipcgcjkfcaa
