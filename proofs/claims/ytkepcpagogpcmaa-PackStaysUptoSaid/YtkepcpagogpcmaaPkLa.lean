/- pack: behind a fault nothing is got, and the place and the first fault stay: for every input of the bound's size. -/
import Derived.Test.YtkepcpagogpcmaaPkS
import Derived.Test.YtkepcpagogpcmaaAmLawC
import Derived.Test.YtkepcpagogpcmaaRows
set_option linter.unusedSimpArgs false
set_option linter.unusedVariables false
set_option linter.unnecessarySimpa false
namespace Go.Proofs.Ytkepcpagogpcmaa
open Go.AM
theorem bulkOk {H : Type} : BulkOk (H := H) Rows.uptoBulk Rows.uptoBulkAll where
  lit l := by cases l <;> simp [Rows.uptoBulk]
  str s := by simp [Rows.uptoBulk]
  nil := by simp [Rows.uptoBulk]
  slice e s := by simp [Rows.uptoBulk]
  agg p := by simp [Rows.uptoBulk]
  none := by simp [Rows.uptoBulkAll]
  cons d r := by simp [Rows.uptoBulkAll]
theorem bulk_append {H : Type} (l r : List (DataW H)) : Rows.uptoBulkAll (l ++ r) = Rows.uptoBulkAll l + Rows.uptoBulkAll r := by
  induction l with
  | nil => simp [Rows.uptoBulkAll]
  | cons x l ih => simp only [List.cons_append, Rows.uptoBulkAll, ih]; omega
theorem bulk_of {H : Type} {ds gs : List (DataW H)} (hk : Rows.uptoSmall H (ds ++ gs) = true) : Rows.uptoBulkAll ds ≤ 1048576 := by
  have h : Rows.uptoBulkAll (ds ++ gs) ≤ 1048576 := of_decide_eq_true hk
  rw [bulk_append] at h; omega
theorem own : ownKnob Try.prog.godebug = none := by kernel_rfl
theorem laidOut : laidOutB Try.prog = true := by kernel_rfl

theorem rBytes_reads : rB.list.Reads (.slice 1 (.int .u8)) (fun xs => (xs.map fun _ => 1).sum + 1) := Reads.list (Reads.nat (by decide)) rfl
theorem rActs_reads : rAct.list.Reads (.slice 2 (.pcons 1 (.int .u8) (.pcons 1 (.int .i64) .pnil))) (fun xs => (xs.map fun _ => 1 + 1).sum + 1) := Reads.list (Reads.pair (Reads.nat (by decide)) (Reads.last (Reads.int _))) rfl

theorem PackStays_shapes : shapesOf Try.prog Try.f6.params.toList = some [(false, .slice 1 (.int .u8)), (false, .slice 2 (.pcons 1 (.int .u8) (.pcons 1 (.int .i64) .pnil)))] := by kernel_rfl

theorem PackStays_does {H : Type} {h : AHeap} {avs : List Value} {ds : List (DataW H)} (hr : RdA h [(false, .slice 1 (.int .u8)), (false, .slice 2 (.pcons 1 (.int .u8) (.pcons 1 (.int .i64) .pnil)))] avs ds) (hb : Rows.uptoBulkAll ds ≤ 1048576) :
    Does Try.prog 6 avs.toArray h fun v _ => v = .bool true := by
  obtain ⟨x, cs, vs, ds', rfl, ⟨v, rfl, h1⟩, hr, b1⟩ := hr.cons_inv rBytes_reads bulkOk
  obtain ⟨y, cs, vs, ds', rfl, ⟨w, rfl, h2⟩, hr, b2⟩ := hr.cons_inv rActs_reads bulkOk
  rw [hr.nil_inv]
  exact stays_ok h1 h2

theorem PackStays_contract (H : Type) (enc : TypeId × Value → H) (W : World) (base : Nat) (args : Array Value) (ds gs : List (DataW H)) (before : List MemPlace)
    (hval : ∀ (j : Nat) t v, Try.f6.params[j]? = some t → args[j]? = some v → Value.okWide Try.prog W .any base t v)
    (hW : DataW.Whole enc Try.prog Try.f6.params.toList Rows.packStaysSpec.vars false W args.toList ds gs before) (hk : Rows.uptoSmall H (ds ++ gs) = true) :
    Calls Try.prog 6 args W fun e W' => ∃ v, e = .returned v ∧ Rows.packStaysSpec.post enc Try.prog Try.f6 false true false false W args v W' :=
  law_contract (tb := 4) laidOut (by kernel_rfl) (by kernel_rfl) Try.underlying4 rfl PackStays_shapes (fun hl => by match ds, hl with | [a, b], _ => rfl) hval hW (fun h avs hr => PackStays_does hr (bulk_of hk))

set_option maxRecDepth 100000 in
theorem PackStays_lifted (os : Os) (started : os.Started) (H : Type) (enc : TypeId × Value → H) (F : Stop.Interp) :
    ReturnsInHanded {} Try.checked os 6 .any ((Rows.OpenSpec.upto Rows.packStaysSpec).pre6 enc Try.prog Try.f6 Rows.packStaysUptoRow.domain false) (((Rows.OpenSpec.upto Rows.packStaysSpec).at F).post enc Try.prog Try.f6 false true false false) := by
  refine returnsInHanded_of_cond (C := Try.checked) (s := Rows.OpenSpec.upto Rows.packStaysSpec) (k := Rows.uptoSmall) rfl own started (by kernel_rfl) Try.func6
    (OpenSpec.witness (enc := enc) (C := Try.checked) (s := Rows.OpenSpec.upto Rows.packStaysSpec) (k := Rows.uptoSmall) rfl false ⟨#[], #[.slice none 0 0, .slice none 0 0], []⟩ 8 (by kernel_rfl) (by kernel_rfl) (by kernel_rfl)
      (x := ([.nil, .nil], [], [])) (by kernel_rfl) rfl (by kernel_rfl)) ?_
  intro W base args ds gs before hval hW _ hk _
  exact PackStays_contract H enc W base args ds gs before hval hW hk

theorem PackStays_proved : Rows.PackStaysUptoSaid :=
  OpenClaim.holds_of_cond 6 Try.f6 rfl rfl rfl rfl rfl rfl rfl ⟨rfl, rfl, rfl, rfl, rfl⟩ rfl rfl rfl rfl rfl (by kernel_rfl) Try.func6 (by kernel_rfl)
    (of_decide_eq_true (by kernel_rfl)) (by unfold Func.isWrapper; first | (rw [if_pos (by decide +kernel)]; kernel_rfl) | (rw [if_neg (by decide +kernel)]; exact ⟨rfl, rfl⟩))
    (fun os started H enc _ F => PackStays_lifted os started H enc F)
end Go.Proofs.Ytkepcpagogpcmaa
