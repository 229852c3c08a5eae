/- plan: six laws, for every input of the bound's size. -/
import Derived.Test.YtohgnkjemfkeoaaPlD
import Derived.Test.YtohgnkjemfkeoaaPlG
import Derived.Test.YtohgnkjemfkeoaaPlJ
import Derived.Test.YtohgnkjemfkeoaaPlY
import Derived.Test.YtohgnkjemfkeoaaPlZ
import Derived.Test.YtohgnkjemfkeoaaPlR
import Derived.Test.YtohgnkjemfkeoaaAmLawC
import Derived.Test.YtohgnkjemfkeoaaRows
set_option linter.unusedSimpArgs false
set_option linter.unusedVariables false
set_option linter.unnecessarySimpa false
set_option maxRecDepth 100000
namespace Go.Proofs.Ytohgnkjemfkeoaa
open Go.AM
theorem bulkOk {H : Type} : BulkOk (H := H) Rows.uptoBulk Rows.uptoBulkAll where
  lit l := by cases l <;> simp [Rows.uptoBulk]
  str s := by simp [Rows.uptoBulk]
  nil := by simp [Rows.uptoBulk]
  slice e s := by simp [Rows.uptoBulk]
  agg p := by simp [Rows.uptoBulk]
  none := by simp [Rows.uptoBulkAll]
  cons d r := by simp [Rows.uptoBulkAll]
theorem bulk_append {H : Type} (l r : List (DataW H)) : Rows.uptoBulkAll (l ++ r) = Rows.uptoBulkAll l + Rows.uptoBulkAll r := by
  induction l with
  | nil => simp [Rows.uptoBulkAll]
  | cons x l ih => simp only [List.cons_append, Rows.uptoBulkAll, ih]; omega
theorem bulk_of {H : Type} {ds gs : List (DataW H)} (hk : Rows.uptoSmall H (ds ++ gs) = true) : Rows.uptoBulkAll ds ≤ 1048576 := by
  have h : Rows.uptoBulkAll (ds ++ gs) ≤ 1048576 := of_decide_eq_true hk
  rw [bulk_append] at h; omega
theorem own : ownKnob Try.prog.godebug = none := by kernel_rfl
theorem laidOut : laidOutB Try.prog = true := by kernel_rfl
theorem len_one {α : Type} (l : List α) : (l.map fun _ => 1).sum = l.length := by
  induction l with
  | nil => rfl
  | cons x l ih => simp [ih]; omega
theorem flat_bound (l : List (List Nat)) : l.flatten.length ≤ (l.map fun x => (x.map fun _ => 1).sum + 1).sum := by
  induction l with
  | nil => simp
  | cons x l ih => simp only [List.flatten_cons, List.length_append, List.map_cons, List.sum_cons, len_one] at ih ⊢; omega
theorem map_bound {α : Type} (l : List α) (f : α → Nat) (hf : ∀ x, 1 ≤ f x) : l.length ≤ (l.map f).sum := by
  induction l with
  | nil => simp
  | cons x l ih => have := hf x; simp only [List.length_cons, List.map_cons, List.sum_cons]; omega
theorem PlanPieces_shapes : shapesOf Try.prog Try.f4.params.toList = some [(true, (.pcons 1 (.int .i64) (.pcons 1 (.int .i64) (.pcons 1 (.slice 3 (.pcons 1 (.int .i64) (.pcons 1 (.int .i64) (.pcons 1 (.int .i64) .pnil)))) .pnil)))), (true, (.pcons 1 (.int .i64) (.pcons 1 (.int .i64) (.pcons 1 (.int .i64) (.pcons 1 (.slice 1 (.int .u64)) .pnil)))))] := by kernel_rfl
theorem PlanPieces_does {H : Type} {h : AHeap} {avs : List Value} {ds : List (DataW H)} (hr : RdA h [(true, (.pcons 1 (.int .i64) (.pcons 1 (.int .i64) (.pcons 1 (.slice 3 (.pcons 1 (.int .i64) (.pcons 1 (.int .i64) (.pcons 1 (.int .i64) .pnil)))) .pnil)))), (true, (.pcons 1 (.int .i64) (.pcons 1 (.int .i64) (.pcons 1 (.int .i64) (.pcons 1 (.slice 1 (.int .u64)) .pnil)))))] avs ds) (hb : Rows.uptoBulkAll ds ≤ 1048576) :
    Does Try.prog 4 avs.toArray h fun v _ => v = .bool true := by
  obtain ⟨x1, cs1, vs, ds', rfl, g1, hr, b1⟩ := hr.cons_inv (Reads.pair (Reads.int _) (Reads.pair (Reads.int _) (Reads.last (Reads.list rPiece_reads rfl)))) bulkOk
  obtain ⟨x2, cs2, vs, ds', rfl, g2, hr, b2⟩ := hr.cons_inv rOp_reads bulkOk
  rw [hr.nil_inv]
  obtain ⟨c1, c2, rfl, ⟨rfl, k1⟩, c3, c4, rfl, ⟨rfl, k2⟩, v, rfl, hs⟩ := g1
  obtain ⟨d, rfl, k3, hd⟩ := rOp_iff.1 g2
  exact pieces_ok (m := ⟨x1.1, x1.2.1, x1.2.2⟩) hs hd
theorem PlanPieces_contract (H : Type) (enc : TypeId × Value → H) (W : World) (base : Nat) (args : Array Value) (ds gs : List (DataW H)) (before : List MemPlace)
    (hval : ∀ (j : Nat) t v, Try.f4.params[j]? = some t → args[j]? = some v → Value.okWide Try.prog W .any base t v)
    (hW : DataW.Whole enc Try.prog Try.f4.params.toList Rows.planPiecesSpec.vars false W args.toList ds gs before) (hk : Rows.uptoSmall H (ds ++ gs) = true) :
    Calls Try.prog 4 args W fun e W' => ∃ v, e = .returned v ∧ Rows.planPiecesSpec.post enc Try.prog Try.f4 false true false false W args v W' :=
  law_contract (tb := 4) laidOut (by kernel_rfl) (by kernel_rfl) Try.underlying4 rfl PlanPieces_shapes (fun hl => by match ds, hl with | [d0, d1], _ => rfl) hval hW (fun h avs hr => PlanPieces_does hr (bulk_of hk))
set_option maxRecDepth 100000 in
theorem PlanPieces_lifted (os : Os) (started : os.Started) (H : Type) (enc : TypeId × Value → H) (F : Stop.Interp) :
    ReturnsInHanded {} Try.checked os 4 .any ((Rows.OpenSpec.upto Rows.planPiecesSpec).pre6 enc Try.prog Try.f4 Rows.planPiecesUptoRow.domain false) (((Rows.OpenSpec.upto Rows.planPiecesSpec).at F).post enc Try.prog Try.f4 false true false false) := by
  refine returnsInHanded_of_cond (C := Try.checked) (s := Rows.OpenSpec.upto Rows.planPiecesSpec) (k := Rows.uptoSmall) rfl own started (by kernel_rfl) Try.func4
    (OpenSpec.witness (enc := enc) (C := Try.checked) (s := Rows.OpenSpec.upto Rows.planPiecesSpec) (k := Rows.uptoSmall) rfl false ⟨#[], #[.agg #[.int .i64 0, .int .i64 0, .slice none 0 0], .agg #[.int .i64 0, .int .i64 0, .int .i64 0, .slice none 0 0]], []⟩ 8 (by kernel_rfl) (by kernel_rfl) (by kernel_rfl)
      (x := ([.agg [.lit (.int .i64 0), .lit (.int .i64 0), .nil], .agg [.lit (.int .i64 0), .lit (.int .i64 0), .lit (.int .i64 0), .nil]], [], [])) (by kernel_rfl) rfl (by kernel_rfl)) ?_
  intro W base args ds gs before hval hW _ hk _
  exact PlanPieces_contract H enc W base args ds gs before hval hW hk
theorem PlanPieces_proved : Rows.PlanPiecesUptoSaid :=
  OpenClaim.holds_of_cond 4 Try.f4 rfl rfl rfl rfl rfl rfl rfl ⟨rfl, rfl, rfl, rfl, rfl⟩ rfl rfl rfl rfl rfl (by kernel_rfl) Try.func4 (by kernel_rfl)
    (of_decide_eq_true (by kernel_rfl)) (by unfold Func.isWrapper; first | (rw [if_pos (by decide +kernel)]; kernel_rfl) | (rw [if_neg (by decide +kernel)]; exact ⟨rfl, rfl⟩))
    (fun os started H enc _ F => PlanPieces_lifted os started H enc F)

theorem PlanDone_shapes : shapesOf Try.prog Try.f3.params.toList = some [(true, (.pcons 1 (.int .i64) (.pcons 1 (.int .i64) (.pcons 1 (.slice 3 (.pcons 1 (.int .i64) (.pcons 1 (.int .i64) (.pcons 1 (.int .i64) .pnil)))) .pnil)))), (true, (.pcons 1 (.int .i64) (.pcons 1 (.int .i64) (.pcons 1 (.int .i64) (.pcons 1 (.slice 1 (.int .u64)) .pnil))))), (false, (.int .i64))] := by kernel_rfl
theorem PlanDone_does {H : Type} {h : AHeap} {avs : List Value} {ds : List (DataW H)} (hr : RdA h [(true, (.pcons 1 (.int .i64) (.pcons 1 (.int .i64) (.pcons 1 (.slice 3 (.pcons 1 (.int .i64) (.pcons 1 (.int .i64) (.pcons 1 (.int .i64) .pnil)))) .pnil)))), (true, (.pcons 1 (.int .i64) (.pcons 1 (.int .i64) (.pcons 1 (.int .i64) (.pcons 1 (.slice 1 (.int .u64)) .pnil))))), (false, (.int .i64))] avs ds) (hb : Rows.uptoBulkAll ds ≤ 1048576) :
    Does Try.prog 3 avs.toArray h fun v _ => v = .bool true := by
  obtain ⟨x1, cs1, vs, ds', rfl, g1, hr, b1⟩ := hr.cons_inv (Reads.pair (Reads.int _) (Reads.pair (Reads.int _) (Reads.last (Reads.list rPiece_reads rfl)))) bulkOk
  obtain ⟨x2, cs2, vs, ds', rfl, g2, hr, b2⟩ := hr.cons_inv rOp_reads bulkOk
  obtain ⟨x3, cs3, vs, ds', rfl, g3, hr, b3⟩ := hr.cons_inv (Reads.int _) bulkOk
  rw [hr.nil_inv]
  obtain ⟨c1, c2, rfl, ⟨rfl, k1⟩, c3, c4, rfl, ⟨rfl, k2⟩, v, rfl, hs⟩ := g1
  obtain ⟨d, rfl, k3, hd⟩ := rOp_iff.1 g2
  obtain ⟨rfl, k4⟩ := g3
  exact done_ok (m := ⟨x1.1, x1.2.1, x1.2.2⟩) hs k3 hd (inI_iff.2 k4)
theorem PlanDone_contract (H : Type) (enc : TypeId × Value → H) (W : World) (base : Nat) (args : Array Value) (ds gs : List (DataW H)) (before : List MemPlace)
    (hval : ∀ (j : Nat) t v, Try.f3.params[j]? = some t → args[j]? = some v → Value.okWide Try.prog W .any base t v)
    (hW : DataW.Whole enc Try.prog Try.f3.params.toList Rows.planDoneSpec.vars false W args.toList ds gs before) (hk : Rows.uptoSmall H (ds ++ gs) = true) :
    Calls Try.prog 3 args W fun e W' => ∃ v, e = .returned v ∧ Rows.planDoneSpec.post enc Try.prog Try.f3 false true false false W args v W' :=
  law_contract (tb := 4) laidOut (by kernel_rfl) (by kernel_rfl) Try.underlying4 rfl PlanDone_shapes (fun hl => by match ds, hl with | [d0, d1, d2], _ => rfl) hval hW (fun h avs hr => PlanDone_does hr (bulk_of hk))
set_option maxRecDepth 100000 in
theorem PlanDone_lifted (os : Os) (started : os.Started) (H : Type) (enc : TypeId × Value → H) (F : Stop.Interp) :
    ReturnsInHanded {} Try.checked os 3 .any ((Rows.OpenSpec.upto Rows.planDoneSpec).pre6 enc Try.prog Try.f3 Rows.planDoneUptoRow.domain false) (((Rows.OpenSpec.upto Rows.planDoneSpec).at F).post enc Try.prog Try.f3 false true false false) := by
  refine returnsInHanded_of_cond (C := Try.checked) (s := Rows.OpenSpec.upto Rows.planDoneSpec) (k := Rows.uptoSmall) rfl own started (by kernel_rfl) Try.func3
    (OpenSpec.witness (enc := enc) (C := Try.checked) (s := Rows.OpenSpec.upto Rows.planDoneSpec) (k := Rows.uptoSmall) rfl false ⟨#[], #[.agg #[.int .i64 0, .int .i64 0, .slice none 0 0], .agg #[.int .i64 0, .int .i64 0, .int .i64 0, .slice none 0 0], .int .i64 0], []⟩ 8 (by kernel_rfl) (by kernel_rfl) (by kernel_rfl)
      (x := ([.agg [.lit (.int .i64 0), .lit (.int .i64 0), .nil], .agg [.lit (.int .i64 0), .lit (.int .i64 0), .lit (.int .i64 0), .nil], .lit (.int .i64 0)], [], [])) (by kernel_rfl) rfl (by kernel_rfl)) ?_
  intro W base args ds gs before hval hW _ hk _
  exact PlanDone_contract H enc W base args ds gs before hval hW hk
theorem PlanDone_proved : Rows.PlanDoneUptoSaid :=
  OpenClaim.holds_of_cond 3 Try.f3 rfl rfl rfl rfl rfl rfl rfl ⟨rfl, rfl, rfl, rfl, rfl⟩ rfl rfl rfl rfl rfl (by kernel_rfl) Try.func3 (by kernel_rfl)
    (of_decide_eq_true (by kernel_rfl)) (by unfold Func.isWrapper; first | (rw [if_pos (by decide +kernel)]; kernel_rfl) | (rw [if_neg (by decide +kernel)]; exact ⟨rfl, rfl⟩))
    (fun os started H enc _ F => PlanDone_lifted os started H enc F)

theorem PlanOwn_shapes : shapesOf Try.prog Try.f5.params.toList = some [(true, (.pcons 1 (.int .i64) (.pcons 1 (.int .i64) (.pcons 1 (.slice 3 (.pcons 1 (.int .i64) (.pcons 1 (.int .i64) (.pcons 1 (.int .i64) .pnil)))) .pnil)))), (true, (.pcons 1 (.int .i64) (.pcons 1 (.int .i64) (.pcons 1 (.int .i64) (.pcons 1 (.slice 1 (.int .u64)) .pnil)))))] := by kernel_rfl
theorem PlanOwn_does {H : Type} {h : AHeap} {avs : List Value} {ds : List (DataW H)} (hr : RdA h [(true, (.pcons 1 (.int .i64) (.pcons 1 (.int .i64) (.pcons 1 (.slice 3 (.pcons 1 (.int .i64) (.pcons 1 (.int .i64) (.pcons 1 (.int .i64) .pnil)))) .pnil)))), (true, (.pcons 1 (.int .i64) (.pcons 1 (.int .i64) (.pcons 1 (.int .i64) (.pcons 1 (.slice 1 (.int .u64)) .pnil)))))] avs ds) (hb : Rows.uptoBulkAll ds ≤ 1048576) :
    Does Try.prog 5 avs.toArray h fun v _ => v = .bool true := by
  obtain ⟨x1, cs1, vs, ds', rfl, g1, hr, b1⟩ := hr.cons_inv (Reads.pair (Reads.int _) (Reads.pair (Reads.int _) (Reads.last (Reads.list rPiece_reads rfl)))) bulkOk
  obtain ⟨x2, cs2, vs, ds', rfl, g2, hr, b2⟩ := hr.cons_inv rOp_reads bulkOk
  rw [hr.nil_inv]
  obtain ⟨c1, c2, rfl, ⟨rfl, k1⟩, c3, c4, rfl, ⟨rfl, k2⟩, v, rfl, hs⟩ := g1
  obtain ⟨d, rfl, k3, hd⟩ := rOp_iff.1 g2
  have m1 := map_bound x1.2.2 (fun _ => 1 + (1 + 1)) (fun _ => by omega)
  simp only [len_one] at b2
  exact own_ok (m := ⟨x1.1, x1.2.1, x1.2.2⟩) hs hd ⟨by simp only; omega, by omega⟩
theorem PlanOwn_contract (H : Type) (enc : TypeId × Value → H) (W : World) (base : Nat) (args : Array Value) (ds gs : List (DataW H)) (before : List MemPlace)
    (hval : ∀ (j : Nat) t v, Try.f5.params[j]? = some t → args[j]? = some v → Value.okWide Try.prog W .any base t v)
    (hW : DataW.Whole enc Try.prog Try.f5.params.toList Rows.planOwnSpec.vars false W args.toList ds gs before) (hk : Rows.uptoSmall H (ds ++ gs) = true) :
    Calls Try.prog 5 args W fun e W' => ∃ v, e = .returned v ∧ Rows.planOwnSpec.post enc Try.prog Try.f5 false true false false W args v W' :=
  law_contract (tb := 4) laidOut (by kernel_rfl) (by kernel_rfl) Try.underlying4 rfl PlanOwn_shapes (fun hl => by match ds, hl with | [d0, d1], _ => rfl) hval hW (fun h avs hr => PlanOwn_does hr (bulk_of hk))
set_option maxRecDepth 100000 in
theorem PlanOwn_lifted (os : Os) (started : os.Started) (H : Type) (enc : TypeId × Value → H) (F : Stop.Interp) :
    ReturnsInHanded {} Try.checked os 5 .any ((Rows.OpenSpec.upto Rows.planOwnSpec).pre6 enc Try.prog Try.f5 Rows.planOwnUptoRow.domain false) (((Rows.OpenSpec.upto Rows.planOwnSpec).at F).post enc Try.prog Try.f5 false true false false) := by
  refine returnsInHanded_of_cond (C := Try.checked) (s := Rows.OpenSpec.upto Rows.planOwnSpec) (k := Rows.uptoSmall) rfl own started (by kernel_rfl) Try.func5
    (OpenSpec.witness (enc := enc) (C := Try.checked) (s := Rows.OpenSpec.upto Rows.planOwnSpec) (k := Rows.uptoSmall) rfl false ⟨#[], #[.agg #[.int .i64 0, .int .i64 0, .slice none 0 0], .agg #[.int .i64 0, .int .i64 0, .int .i64 0, .slice none 0 0]], []⟩ 8 (by kernel_rfl) (by kernel_rfl) (by kernel_rfl)
      (x := ([.agg [.lit (.int .i64 0), .lit (.int .i64 0), .nil], .agg [.lit (.int .i64 0), .lit (.int .i64 0), .lit (.int .i64 0), .nil]], [], [])) (by kernel_rfl) rfl (by kernel_rfl)) ?_
  intro W base args ds gs before hval hW _ hk _
  exact PlanOwn_contract H enc W base args ds gs before hval hW hk
theorem PlanOwn_proved : Rows.PlanOwnUptoSaid :=
  OpenClaim.holds_of_cond 5 Try.f5 rfl rfl rfl rfl rfl rfl rfl ⟨rfl, rfl, rfl, rfl, rfl⟩ rfl rfl rfl rfl rfl (by kernel_rfl) Try.func5 (by kernel_rfl)
    (of_decide_eq_true (by kernel_rfl)) (by unfold Func.isWrapper; first | (rw [if_pos (by decide +kernel)]; kernel_rfl) | (rw [if_neg (by decide +kernel)]; exact ⟨rfl, rfl⟩))
    (fun os started H enc _ F => PlanOwn_lifted os started H enc F)

theorem PlanCuts_shapes : shapesOf Try.prog Try.f6.params.toList = some [(true, (.pcons 1 (.int .i64) (.pcons 1 (.int .i64) (.pcons 1 (.slice 3 (.pcons 1 (.int .i64) (.pcons 1 (.int .i64) (.pcons 1 (.int .i64) .pnil)))) .pnil)))), (true, (.pcons 1 (.int .i64) (.pcons 1 (.int .i64) (.pcons 1 (.int .i64) (.pcons 1 (.slice 1 (.int .u64)) .pnil))))), (true, (.pcons 1 (.int .i64) (.pcons 1 (.int .i64) .pnil)))] := by kernel_rfl
theorem PlanCuts_does {H : Type} {h : AHeap} {avs : List Value} {ds : List (DataW H)} (hr : RdA h [(true, (.pcons 1 (.int .i64) (.pcons 1 (.int .i64) (.pcons 1 (.slice 3 (.pcons 1 (.int .i64) (.pcons 1 (.int .i64) (.pcons 1 (.int .i64) .pnil)))) .pnil)))), (true, (.pcons 1 (.int .i64) (.pcons 1 (.int .i64) (.pcons 1 (.int .i64) (.pcons 1 (.slice 1 (.int .u64)) .pnil))))), (true, (.pcons 1 (.int .i64) (.pcons 1 (.int .i64) .pnil)))] avs ds) (hb : Rows.uptoBulkAll ds ≤ 1048576) :
    Does Try.prog 6 avs.toArray h fun v _ => v = .bool true := by
  obtain ⟨x1, cs1, vs, ds', rfl, g1, hr, b1⟩ := hr.cons_inv (Reads.pair (Reads.int _) (Reads.pair (Reads.int _) (Reads.last (Reads.list rPiece_reads rfl)))) bulkOk
  obtain ⟨x2, cs2, vs, ds', rfl, g2, hr, b2⟩ := hr.cons_inv rOp_reads bulkOk
  obtain ⟨x3, cs3, vs, ds', rfl, g3, hr, b3⟩ := hr.cons_inv (Reads.pair (Reads.int _) (Reads.last (Reads.int _))) bulkOk
  rw [hr.nil_inv]
  obtain ⟨c1, c2, rfl, ⟨rfl, k1⟩, c3, c4, rfl, ⟨rfl, k2⟩, v, rfl, hs⟩ := g1
  obtain ⟨d, rfl, k3, hd⟩ := rOp_iff.1 g2
  obtain ⟨c5, c6, rfl, ⟨rfl, k4⟩, ⟨rfl, k5⟩⟩ := g3
  exact cuts_ok (m := ⟨x1.1, x1.2.1, x1.2.2⟩) hs k3 hd ⟨inI_iff.2 k4, inI_iff.2 k5⟩
theorem PlanCuts_contract (H : Type) (enc : TypeId × Value → H) (W : World) (base : Nat) (args : Array Value) (ds gs : List (DataW H)) (before : List MemPlace)
    (hval : ∀ (j : Nat) t v, Try.f6.params[j]? = some t → args[j]? = some v → Value.okWide Try.prog W .any base t v)
    (hW : DataW.Whole enc Try.prog Try.f6.params.toList Rows.planCutsSpec.vars false W args.toList ds gs before) (hk : Rows.uptoSmall H (ds ++ gs) = true) :
    Calls Try.prog 6 args W fun e W' => ∃ v, e = .returned v ∧ Rows.planCutsSpec.post enc Try.prog Try.f6 false true false false W args v W' :=
  law_contract (tb := 4) laidOut (by kernel_rfl) (by kernel_rfl) Try.underlying4 rfl PlanCuts_shapes (fun hl => by match ds, hl with | [d0, d1, d2], _ => rfl) hval hW (fun h avs hr => PlanCuts_does hr (bulk_of hk))
set_option maxRecDepth 100000 in
theorem PlanCuts_lifted (os : Os) (started : os.Started) (H : Type) (enc : TypeId × Value → H) (F : Stop.Interp) :
    ReturnsInHanded {} Try.checked os 6 .any ((Rows.OpenSpec.upto Rows.planCutsSpec).pre6 enc Try.prog Try.f6 Rows.planCutsUptoRow.domain false) (((Rows.OpenSpec.upto Rows.planCutsSpec).at F).post enc Try.prog Try.f6 false true false false) := by
  refine returnsInHanded_of_cond (C := Try.checked) (s := Rows.OpenSpec.upto Rows.planCutsSpec) (k := Rows.uptoSmall) rfl own started (by kernel_rfl) Try.func6
    (OpenSpec.witness (enc := enc) (C := Try.checked) (s := Rows.OpenSpec.upto Rows.planCutsSpec) (k := Rows.uptoSmall) rfl false ⟨#[], #[.agg #[.int .i64 0, .int .i64 0, .slice none 0 0], .agg #[.int .i64 0, .int .i64 0, .int .i64 0, .slice none 0 0], .agg #[.int .i64 0, .int .i64 0]], []⟩ 8 (by kernel_rfl) (by kernel_rfl) (by kernel_rfl)
      (x := ([.agg [.lit (.int .i64 0), .lit (.int .i64 0), .nil], .agg [.lit (.int .i64 0), .lit (.int .i64 0), .lit (.int .i64 0), .nil], .agg [.lit (.int .i64 0), .lit (.int .i64 0)]], [], [])) (by kernel_rfl) rfl (by kernel_rfl)) ?_
  intro W base args ds gs before hval hW _ hk _
  exact PlanCuts_contract H enc W base args ds gs before hval hW hk
theorem PlanCuts_proved : Rows.PlanCutsUptoSaid :=
  OpenClaim.holds_of_cond 6 Try.f6 rfl rfl rfl rfl rfl rfl rfl ⟨rfl, rfl, rfl, rfl, rfl⟩ rfl rfl rfl rfl rfl (by kernel_rfl) Try.func6 (by kernel_rfl)
    (of_decide_eq_true (by kernel_rfl)) (by unfold Func.isWrapper; first | (rw [if_pos (by decide +kernel)]; kernel_rfl) | (rw [if_neg (by decide +kernel)]; exact ⟨rfl, rfl⟩))
    (fun os started H enc _ F => PlanCuts_lifted os started H enc F)

theorem PlanJoins_shapes : shapesOf Try.prog Try.f7.params.toList = some [(true, (.pcons 1 (.int .i64) (.pcons 1 (.int .i64) (.pcons 1 (.slice 3 (.pcons 1 (.int .i64) (.pcons 1 (.int .i64) (.pcons 1 (.int .i64) .pnil)))) .pnil)))), (true, (.pcons 1 (.int .i64) (.pcons 1 (.int .i64) .pnil))), (false, (.slice 1 (.slice 1 (.int .u64))))] := by kernel_rfl
theorem PlanJoins_does {H : Type} {h : AHeap} {avs : List Value} {ds : List (DataW H)} (hr : RdA h [(true, (.pcons 1 (.int .i64) (.pcons 1 (.int .i64) (.pcons 1 (.slice 3 (.pcons 1 (.int .i64) (.pcons 1 (.int .i64) (.pcons 1 (.int .i64) .pnil)))) .pnil)))), (true, (.pcons 1 (.int .i64) (.pcons 1 (.int .i64) .pnil))), (false, (.slice 1 (.slice 1 (.int .u64))))] avs ds) (hb : Rows.uptoBulkAll ds ≤ 1048576) :
    Does Try.prog 7 avs.toArray h fun v _ => v = .bool true := by
  obtain ⟨x1, cs1, vs, ds', rfl, g1, hr, b1⟩ := hr.cons_inv (Reads.pair (Reads.int _) (Reads.pair (Reads.int _) (Reads.last (Reads.list rPiece_reads rfl)))) bulkOk
  obtain ⟨x2, cs2, vs, ds', rfl, g2, hr, b2⟩ := hr.cons_inv (Reads.pair (Reads.int _) (Reads.last (Reads.int _))) bulkOk
  obtain ⟨x3, cs3, vs, ds', rfl, g3, hr, b3⟩ := hr.cons_inv (Reads.list (Reads.list (Reads.nat (by decide)) rfl) rfl) bulkOk
  rw [hr.nil_inv]
  obtain ⟨c1, c2, rfl, ⟨rfl, k1⟩, c3, c4, rfl, ⟨rfl, k2⟩, v, rfl, hs⟩ := g1
  obtain ⟨c5, c6, rfl, ⟨rfl, k4⟩, ⟨rfl, k5⟩⟩ := g2
  obtain ⟨w, rfl, hw⟩ := g3
  have m1 := flat_bound x3
  exact joins_ok (m := ⟨x1.1, x1.2.1, x1.2.2⟩) hs hw ⟨inI_iff.2 k4, inI_iff.2 k5⟩ (by omega)
theorem PlanJoins_contract (H : Type) (enc : TypeId × Value → H) (W : World) (base : Nat) (args : Array Value) (ds gs : List (DataW H)) (before : List MemPlace)
    (hval : ∀ (j : Nat) t v, Try.f7.params[j]? = some t → args[j]? = some v → Value.okWide Try.prog W .any base t v)
    (hW : DataW.Whole enc Try.prog Try.f7.params.toList Rows.planJoinsSpec.vars false W args.toList ds gs before) (hk : Rows.uptoSmall H (ds ++ gs) = true) :
    Calls Try.prog 7 args W fun e W' => ∃ v, e = .returned v ∧ Rows.planJoinsSpec.post enc Try.prog Try.f7 false true false false W args v W' :=
  law_contract (tb := 4) laidOut (by kernel_rfl) (by kernel_rfl) Try.underlying4 rfl PlanJoins_shapes (fun hl => by match ds, hl with | [d0, d1, d2], _ => rfl) hval hW (fun h avs hr => PlanJoins_does hr (bulk_of hk))
set_option maxRecDepth 100000 in
theorem PlanJoins_lifted (os : Os) (started : os.Started) (H : Type) (enc : TypeId × Value → H) (F : Stop.Interp) :
    ReturnsInHanded {} Try.checked os 7 .any ((Rows.OpenSpec.upto Rows.planJoinsSpec).pre6 enc Try.prog Try.f7 Rows.planJoinsUptoRow.domain false) (((Rows.OpenSpec.upto Rows.planJoinsSpec).at F).post enc Try.prog Try.f7 false true false false) := by
  refine returnsInHanded_of_cond (C := Try.checked) (s := Rows.OpenSpec.upto Rows.planJoinsSpec) (k := Rows.uptoSmall) rfl own started (by kernel_rfl) Try.func7
    (OpenSpec.witness (enc := enc) (C := Try.checked) (s := Rows.OpenSpec.upto Rows.planJoinsSpec) (k := Rows.uptoSmall) rfl false ⟨#[], #[.agg #[.int .i64 0, .int .i64 0, .slice none 0 0], .agg #[.int .i64 0, .int .i64 0], .slice none 0 0], []⟩ 8 (by kernel_rfl) (by kernel_rfl) (by kernel_rfl)
      (x := ([.agg [.lit (.int .i64 0), .lit (.int .i64 0), .nil], .agg [.lit (.int .i64 0), .lit (.int .i64 0)], .nil], [], [])) (by kernel_rfl) rfl (by kernel_rfl)) ?_
  intro W base args ds gs before hval hW _ hk _
  exact PlanJoins_contract H enc W base args ds gs before hval hW hk
theorem PlanJoins_proved : Rows.PlanJoinsUptoSaid :=
  OpenClaim.holds_of_cond 7 Try.f7 rfl rfl rfl rfl rfl rfl rfl ⟨rfl, rfl, rfl, rfl, rfl⟩ rfl rfl rfl rfl rfl (by kernel_rfl) Try.func7 (by kernel_rfl)
    (of_decide_eq_true (by kernel_rfl)) (by unfold Func.isWrapper; first | (rw [if_pos (by decide +kernel)]; kernel_rfl) | (rw [if_neg (by decide +kernel)]; exact ⟨rfl, rfl⟩))
    (fun os started H enc _ F => PlanJoins_lifted os started H enc F)

theorem PlanReads_shapes : shapesOf Try.prog Try.f8.params.toList = some [(true, (.pcons 1 (.int .i64) (.pcons 1 (.int .i64) (.pcons 1 (.slice 3 (.pcons 1 (.int .i64) (.pcons 1 (.int .i64) (.pcons 1 (.int .i64) .pnil)))) .pnil)))), (false, (.slice 1 (.int .u64))), (true, (.pcons 1 (.int .i64) (.pcons 1 (.int .i64) .pnil)))] := by kernel_rfl
theorem PlanReads_does {H : Type} {h : AHeap} {avs : List Value} {ds : List (DataW H)} (hr : RdA h [(true, (.pcons 1 (.int .i64) (.pcons 1 (.int .i64) (.pcons 1 (.slice 3 (.pcons 1 (.int .i64) (.pcons 1 (.int .i64) (.pcons 1 (.int .i64) .pnil)))) .pnil)))), (false, (.slice 1 (.int .u64))), (true, (.pcons 1 (.int .i64) (.pcons 1 (.int .i64) .pnil)))] avs ds) (hb : Rows.uptoBulkAll ds ≤ 1048576) :
    Does Try.prog 8 avs.toArray h fun v _ => v = .bool true := by
  obtain ⟨x1, cs1, vs, ds', rfl, g1, hr, b1⟩ := hr.cons_inv (Reads.pair (Reads.int _) (Reads.pair (Reads.int _) (Reads.last (Reads.list rPiece_reads rfl)))) bulkOk
  obtain ⟨x2, cs2, vs, ds', rfl, g2, hr, b2⟩ := hr.cons_inv (Reads.list (Reads.nat (by decide)) rfl) bulkOk
  obtain ⟨x3, cs3, vs, ds', rfl, g3, hr, b3⟩ := hr.cons_inv (Reads.pair (Reads.int _) (Reads.last (Reads.int _))) bulkOk
  rw [hr.nil_inv]
  obtain ⟨c1, c2, rfl, ⟨rfl, k1⟩, c3, c4, rfl, ⟨rfl, k2⟩, v, rfl, hs⟩ := g1
  obtain ⟨w, rfl, hw⟩ := g2
  obtain ⟨c5, c6, rfl, ⟨rfl, k4⟩, ⟨rfl, k5⟩⟩ := g3
  exact reads_law (m := ⟨x1.1, x1.2.1, x1.2.2⟩) hs hw ⟨inI_iff.2 k4, inI_iff.2 k5⟩
theorem PlanReads_contract (H : Type) (enc : TypeId × Value → H) (W : World) (base : Nat) (args : Array Value) (ds gs : List (DataW H)) (before : List MemPlace)
    (hval : ∀ (j : Nat) t v, Try.f8.params[j]? = some t → args[j]? = some v → Value.okWide Try.prog W .any base t v)
    (hW : DataW.Whole enc Try.prog Try.f8.params.toList Rows.planReadsSpec.vars false W args.toList ds gs before) (hk : Rows.uptoSmall H (ds ++ gs) = true) :
    Calls Try.prog 8 args W fun e W' => ∃ v, e = .returned v ∧ Rows.planReadsSpec.post enc Try.prog Try.f8 false true false false W args v W' :=
  law_contract (tb := 4) laidOut (by kernel_rfl) (by kernel_rfl) Try.underlying4 rfl PlanReads_shapes (fun hl => by match ds, hl with | [d0, d1, d2], _ => rfl) hval hW (fun h avs hr => PlanReads_does hr (bulk_of hk))
set_option maxRecDepth 100000 in
theorem PlanReads_lifted (os : Os) (started : os.Started) (H : Type) (enc : TypeId × Value → H) (F : Stop.Interp) :
    ReturnsInHanded {} Try.checked os 8 .any ((Rows.OpenSpec.upto Rows.planReadsSpec).pre6 enc Try.prog Try.f8 Rows.planReadsUptoRow.domain false) (((Rows.OpenSpec.upto Rows.planReadsSpec).at F).post enc Try.prog Try.f8 false true false false) := by
  refine returnsInHanded_of_cond (C := Try.checked) (s := Rows.OpenSpec.upto Rows.planReadsSpec) (k := Rows.uptoSmall) rfl own started (by kernel_rfl) Try.func8
    (OpenSpec.witness (enc := enc) (C := Try.checked) (s := Rows.OpenSpec.upto Rows.planReadsSpec) (k := Rows.uptoSmall) rfl false ⟨#[], #[.agg #[.int .i64 0, .int .i64 0, .slice none 0 0], .slice none 0 0, .agg #[.int .i64 0, .int .i64 0]], []⟩ 8 (by kernel_rfl) (by kernel_rfl) (by kernel_rfl)
      (x := ([.agg [.lit (.int .i64 0), .lit (.int .i64 0), .nil], .nil, .agg [.lit (.int .i64 0), .lit (.int .i64 0)]], [], [])) (by kernel_rfl) rfl (by kernel_rfl)) ?_
  intro W base args ds gs before hval hW _ hk _
  exact PlanReads_contract H enc W base args ds gs before hval hW hk
theorem PlanReads_proved : Rows.PlanReadsUptoSaid :=
  OpenClaim.holds_of_cond 8 Try.f8 rfl rfl rfl rfl rfl rfl rfl ⟨rfl, rfl, rfl, rfl, rfl⟩ rfl rfl rfl rfl rfl (by kernel_rfl) Try.func8 (by kernel_rfl)
    (of_decide_eq_true (by kernel_rfl)) (by unfold Func.isWrapper; first | (rw [if_pos (by decide +kernel)]; kernel_rfl) | (rw [if_neg (by decide +kernel)]; exact ⟨rfl, rfl⟩))
    (fun os started H enc _ F => PlanReads_lifted os started H enc F)

end Go.Proofs.Ytohgnkjemfkeoaa
