/- cow: CowFresh, for every input of the bound's size. -/
import Derived.Test.YtfdbadpiklmbaaaFrG
import Derived.Test.YtfdbadpiklmbaaaAmLawC
import Derived.Test.YtfdbadpiklmbaaaRows
set_option linter.unusedSimpArgs false
set_option linter.unusedVariables false
set_option linter.unnecessarySimpa false
set_option maxRecDepth 100000
namespace Go.Proofs.Ytfdbadpiklmbaaa
open Go.AM
theorem bulkOk {H : Type} : BulkOk (H := H) Rows.uptoBulk Rows.uptoBulkAll where
  lit l := by cases l <;> simp [Rows.uptoBulk]
  str s := by simp [Rows.uptoBulk]
  nil := by simp [Rows.uptoBulk]
  slice e s := by simp [Rows.uptoBulk]
  agg p := by simp [Rows.uptoBulk]
  none := by simp [Rows.uptoBulkAll]
  cons d r := by simp [Rows.uptoBulkAll]
theorem bulk_append {H : Type} (l r : List (DataW H)) : Rows.uptoBulkAll (l ++ r) = Rows.uptoBulkAll l + Rows.uptoBulkAll r := by
  induction l with
  | nil => simp [Rows.uptoBulkAll]
  | cons x l ih => simp only [List.cons_append, Rows.uptoBulkAll, ih]; omega
theorem bulk_of {H : Type} {ds gs : List (DataW H)} (hk : Rows.uptoSmall H (ds ++ gs) = true) : Rows.uptoBulkAll ds ≤ 1048576 := by
  have h : Rows.uptoBulkAll (ds ++ gs) ≤ 1048576 := of_decide_eq_true hk
  rw [bulk_append] at h; omega
theorem own : ownKnob Try.prog.godebug = none := by kernel_rfl
theorem laidOut : laidOutB Try.prog = true := by kernel_rfl
theorem len_one {α : Type} (l : List α) : (l.map fun _ => 1).sum = l.length := by
  induction l with
  | nil => rfl
  | cons x l ih => simp [ih]; omega
theorem rAct_reads : rAct.Reads (.pcons 1 (.int .u8) (.pcons 1 (.int .i64) (.pcons 4 (.pcons 1 (.int .i64) (.pcons 1 (.int .i64) (.pcons 1 (.int .i64) (.pcons 1 (.int .i64) .pnil)))) .pnil))) (fun _ => 1 + (1 + (1 + (1 + (1 + 1))))) :=
  Reads.via (Reads.pair (Reads.nat (by decide)) (Reads.pair (Reads.int _) (Reads.last (Reads.via (Reads.pair (Reads.int _) (Reads.pair (Reads.int _) (Reads.pair (Reads.int _) (Reads.last (Reads.int _))))) (g := fun x => ⟨x.1, x.2.1, x.2.2.1, x.2.2.2⟩) (fun _ => rfl))))) (g := fun x => ⟨x.1, x.2.1, x.2.2⟩) (fun _ => rfl)
theorem CowFresh_shapes : shapesOf Try.prog Try.f7.params.toList = some [(false, (.slice 6 (.pcons 1 (.int .u8) (.pcons 1 (.int .i64) (.pcons 4 (.pcons 1 (.int .i64) (.pcons 1 (.int .i64) (.pcons 1 (.int .i64) (.pcons 1 (.int .i64) .pnil)))) .pnil)))))] := by kernel_rfl
theorem CowFresh_does {H : Type} {h : AHeap} {avs : List Value} {ds : List (DataW H)} (hr : RdA h [(false, (.slice 6 (.pcons 1 (.int .u8) (.pcons 1 (.int .i64) (.pcons 4 (.pcons 1 (.int .i64) (.pcons 1 (.int .i64) (.pcons 1 (.int .i64) (.pcons 1 (.int .i64) .pnil)))) .pnil)))))] avs ds) (hb : Rows.uptoBulkAll ds ≤ 1048576) :
    Does Try.prog 7 avs.toArray h fun v _ => v = .bool true := by
  obtain ⟨x1, cs1, vs, ds', rfl, g1, hr, b1⟩ := hr.cons_inv (Reads.list rAct_reads rfl) bulkOk
  rw [hr.nil_inv]
  obtain ⟨v, rfl, hs⟩ := g1
  exact fresh_law hs
theorem CowFresh_contract (H : Type) (enc : TypeId × Value → H) (W : World) (base : Nat) (args : Array Value) (ds gs : List (DataW H)) (before : List MemPlace)
    (hval : ∀ (j : Nat) t v, Try.f7.params[j]? = some t → args[j]? = some v → Value.okWide Try.prog W .any base t v)
    (hW : DataW.Whole enc Try.prog Try.f7.params.toList Rows.cowFreshSpec.vars false W args.toList ds gs before) (hk : Rows.uptoSmall H (ds ++ gs) = true) :
    Calls Try.prog 7 args W fun e W' => ∃ v, e = .returned v ∧ Rows.cowFreshSpec.post enc Try.prog Try.f7 false true false false W args v W' :=
  law_contract (tb := 4) laidOut (by kernel_rfl) (by kernel_rfl) Try.underlying4 rfl CowFresh_shapes (fun hl => by match ds, hl with | [d0], _ => rfl) hval hW (fun h avs hr => CowFresh_does hr (bulk_of hk))
set_option maxRecDepth 100000 in
theorem CowFresh_lifted (os : Os) (started : os.Started) (H : Type) (enc : TypeId × Value → H) (F : Stop.Interp) :
    ReturnsInHanded {} Try.checked os 7 .any ((Rows.OpenSpec.upto Rows.cowFreshSpec).pre6 enc Try.prog Try.f7 Rows.cowFreshUptoRow.domain false) (((Rows.OpenSpec.upto Rows.cowFreshSpec).at F).post enc Try.prog Try.f7 false true false false) := by
  refine returnsInHanded_of_cond (C := Try.checked) (s := Rows.OpenSpec.upto Rows.cowFreshSpec) (k := Rows.uptoSmall) rfl own started (by kernel_rfl) Try.func7
    (OpenSpec.witness (enc := enc) (C := Try.checked) (s := Rows.OpenSpec.upto Rows.cowFreshSpec) (k := Rows.uptoSmall) rfl false ⟨#[], #[.slice none 0 0], []⟩ 8 (by kernel_rfl) (by kernel_rfl) (by kernel_rfl)
      (x := ([.nil], [], [])) (by kernel_rfl) rfl (by kernel_rfl)) ?_
  intro W base args ds gs before hval hW _ hk _
  exact CowFresh_contract H enc W base args ds gs before hval hW hk
theorem CowFresh_proved : Rows.CowFreshUptoSaid :=
  OpenClaim.holds_of_cond 7 Try.f7 rfl rfl rfl rfl rfl rfl rfl ⟨rfl, rfl, rfl, rfl, rfl⟩ rfl rfl rfl rfl rfl (by kernel_rfl) Try.func7 (by kernel_rfl)
    (of_decide_eq_true (by kernel_rfl)) (by unfold Func.isWrapper; first | (rw [if_pos (by decide +kernel)]; kernel_rfl) | (rw [if_neg (by decide +kernel)]; exact ⟨rfl, rfl⟩))
    (fun os started H enc _ F => CowFresh_lifted os started H enc F)

end Go.Proofs.Ytfdbadpiklmbaaa
