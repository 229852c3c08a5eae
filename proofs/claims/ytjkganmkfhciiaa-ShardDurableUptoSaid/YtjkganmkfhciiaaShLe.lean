/- shard: ShardDurable, for every input of the bound's size. -/
import Derived.Test.YtjkganmkfhciiaaShY
import Derived.Test.YtjkganmkfhciiaaAmLawC
import Derived.Test.YtjkganmkfhciiaaRows
set_option linter.unusedSimpArgs false
set_option linter.unusedVariables false
set_option linter.unnecessarySimpa false
set_option maxRecDepth 100000
namespace Go.Proofs.Ytjkganmkfhciiaa
open Go.AM
theorem bulkOk {H : Type} : BulkOk (H := H) Rows.uptoBulk Rows.uptoBulkAll where
  lit l := by cases l <;> simp [Rows.uptoBulk]
  str s := by simp [Rows.uptoBulk]
  nil := by simp [Rows.uptoBulk]
  slice e s := by simp [Rows.uptoBulk]
  agg p := by simp [Rows.uptoBulk]
  none := by simp [Rows.uptoBulkAll]
  cons d r := by simp [Rows.uptoBulkAll]
theorem bulk_append {H : Type} (l r : List (DataW H)) : Rows.uptoBulkAll (l ++ r) = Rows.uptoBulkAll l + Rows.uptoBulkAll r := by
  induction l with
  | nil => simp [Rows.uptoBulkAll]
  | cons x l ih => simp only [List.cons_append, Rows.uptoBulkAll, ih]; omega
theorem bulk_of {H : Type} {ds gs : List (DataW H)} (hk : Rows.uptoSmall H (ds ++ gs) = true) : Rows.uptoBulkAll ds ≤ 1048576 := by
  have h : Rows.uptoBulkAll (ds ++ gs) ≤ 1048576 := of_decide_eq_true hk
  rw [bulk_append] at h; omega
theorem own : ownKnob Try.prog.godebug = none := by kernel_rfl
theorem laidOut : laidOutB Try.prog = true := by kernel_rfl
theorem len_one {α : Type} (l : List α) : (l.map fun _ => 1).sum = l.length := by
  induction l with
  | nil => rfl
  | cons x l ih => simp [ih]; omega
theorem rBop_reads : rBop.Reads (.pcons 1 (.int .i64) (.pcons 1 (.int .i64) (.pcons 1 (.int .i64) (.pcons 1 (.slice 1 (.int .u64)) .pnil)))) (fun m => 1 + (1 + (1 + ((m.data.map fun _ => 1).sum + 1)))) :=
  Reads.via (Reads.pair (Reads.int _) (Reads.pair (Reads.int _) (Reads.pair (Reads.int _) (Reads.last (Reads.list (Reads.nat (by decide)) rfl))))) (g := fun x => ⟨x.1, x.2.1, x.2.2.1, x.2.2.2⟩) (fun _ => rfl)
theorem rSAct_reads : rSAct.Reads (.pcons 1 (.int .u8) (.pcons 4 (.pcons 1 (.int .i64) (.pcons 1 (.int .i64) (.pcons 1 (.int .i64) (.pcons 1 (.slice 1 (.int .u64)) .pnil)))) (.pcons 1 (.int .i64) (.pcons 1 .bool (.pcons 1 (.slice 1 .bool) .pnil))))) (fun a => 1 + ((1 + (1 + (1 + ((a.op.data.map fun _ => 1).sum + 1)))) + (1 + (1 + ((a.keep.map fun _ => 1).sum + 1))))) :=
  Reads.via (Reads.pair (Reads.nat (by decide)) (Reads.pair rBop_reads (Reads.pair (Reads.int _) (Reads.pair Reads.bool (Reads.last (Reads.list Reads.bool rfl)))))) (g := fun x => ⟨x.1, x.2.1, x.2.2.1, x.2.2.2.1, x.2.2.2.2⟩) (fun _ => rfl)
theorem map_bound {α : Type} (l : List α) (f : α → Nat) (hf : ∀ x, 1 ≤ f x) : l.length ≤ (l.map f).sum := by
  induction l with
  | nil => simp
  | cons x l ih => have := hf x; simp only [List.length_cons, List.map_cons, List.sum_cons]; omega
theorem script_bound {xs : List SAct} (h : (xs.map fun a : SAct => 1 + ((1 + (1 + (1 + ((a.op.data.map fun _ => 1).sum + 1)))) + (1 + (1 + ((a.keep.map fun _ => 1).sum + 1))))).sum ≤ 1048576) : xs.length ≤ 1048576 := Nat.le_trans (map_bound xs _ fun _ => by omega) h
theorem ShardDurable_shapes : shapesOf Try.prog Try.f6.params.toList = some [(false, (.int .i64)), (false, (.slice 8 (.pcons 1 (.int .u8) (.pcons 4 (.pcons 1 (.int .i64) (.pcons 1 (.int .i64) (.pcons 1 (.int .i64) (.pcons 1 (.slice 1 (.int .u64)) .pnil)))) (.pcons 1 (.int .i64) (.pcons 1 .bool (.pcons 1 (.slice 1 .bool) .pnil))))))), (false, (.slice 1 .bool))] := by kernel_rfl
theorem ShardDurable_does {H : Type} {h : AHeap} {avs : List Value} {ds : List (DataW H)} (hr : RdA h [(false, (.int .i64)), (false, (.slice 8 (.pcons 1 (.int .u8) (.pcons 4 (.pcons 1 (.int .i64) (.pcons 1 (.int .i64) (.pcons 1 (.int .i64) (.pcons 1 (.slice 1 (.int .u64)) .pnil)))) (.pcons 1 (.int .i64) (.pcons 1 .bool (.pcons 1 (.slice 1 .bool) .pnil))))))), (false, (.slice 1 .bool))] avs ds) (hb : Rows.uptoBulkAll ds ≤ 1048576) :
    Does Try.prog 6 avs.toArray h fun v _ => v = .bool true := by
  obtain ⟨x1, cs1, vs, ds', rfl, g1, hr, b1⟩ := hr.cons_inv (Reads.int _) bulkOk
  obtain ⟨x2, cs2, vs, ds', rfl, g2, hr, b2⟩ := hr.cons_inv (Reads.list rSAct_reads rfl) bulkOk
  obtain ⟨x3, cs3, vs, ds', rfl, g3, hr, b3⟩ := hr.cons_inv (Reads.list Reads.bool rfl) bulkOk
  rw [hr.nil_inv]
  obtain ⟨rfl, k1⟩ := g1
  obtain ⟨w, rfl, hw⟩ := g2
  obtain ⟨w3, rfl, hw3⟩ := g3
  exact (durableLaw_ok (inI_iff.2 k1) hw hw3 (script_bound (by omega))).mono fun u h' e => e.1
theorem ShardDurable_contract (H : Type) (enc : TypeId × Value → H) (W : World) (base : Nat) (args : Array Value) (ds gs : List (DataW H)) (before : List MemPlace)
    (hval : ∀ (j : Nat) t v, Try.f6.params[j]? = some t → args[j]? = some v → Value.okWide Try.prog W .any base t v)
    (hW : DataW.Whole enc Try.prog Try.f6.params.toList Rows.shardDurableSpec.vars false W args.toList ds gs before) (hk : Rows.uptoSmall H (ds ++ gs) = true) :
    Calls Try.prog 6 args W fun e W' => ∃ v, e = .returned v ∧ Rows.shardDurableSpec.post enc Try.prog Try.f6 false true false false W args v W' :=
  law_contract (tb := 4) laidOut (by kernel_rfl) (by kernel_rfl) Try.underlying4 rfl ShardDurable_shapes (fun hl => by match ds, hl with | [d0, d1, d2], _ => rfl) hval hW (fun h avs hr => ShardDurable_does hr (bulk_of hk))
set_option maxRecDepth 100000 in
theorem ShardDurable_lifted (os : Os) (started : os.Started) (H : Type) (enc : TypeId × Value → H) (F : Stop.Interp) :
    ReturnsInHanded {} Try.checked os 6 .any ((Rows.OpenSpec.upto Rows.shardDurableSpec).pre6 enc Try.prog Try.f6 Rows.shardDurableUptoRow.domain false) (((Rows.OpenSpec.upto Rows.shardDurableSpec).at F).post enc Try.prog Try.f6 false true false false) := by
  refine returnsInHanded_of_cond (C := Try.checked) (s := Rows.OpenSpec.upto Rows.shardDurableSpec) (k := Rows.uptoSmall) rfl own started (by kernel_rfl) Try.func6
    (OpenSpec.witness (enc := enc) (C := Try.checked) (s := Rows.OpenSpec.upto Rows.shardDurableSpec) (k := Rows.uptoSmall) rfl false ⟨#[], #[.int .i64 0, .slice none 0 0, .slice none 0 0], []⟩ 8 (by kernel_rfl) (by kernel_rfl) (by kernel_rfl)
      (x := ([.lit (.int .i64 0), .nil, .nil], [], [])) (by kernel_rfl) rfl (by kernel_rfl)) ?_
  intro W base args ds gs before hval hW _ hk _
  exact ShardDurable_contract H enc W base args ds gs before hval hW hk
theorem ShardDurable_proved : Rows.ShardDurableUptoSaid :=
  OpenClaim.holds_of_cond 6 Try.f6 rfl rfl rfl rfl rfl rfl rfl ⟨rfl, rfl, rfl, rfl, rfl⟩ rfl rfl rfl rfl rfl (by kernel_rfl) Try.func6 (by kernel_rfl)
    (of_decide_eq_true (by kernel_rfl)) (by unfold Func.isWrapper; first | (rw [if_pos (by decide +kernel)]; kernel_rfl) | (rw [if_neg (by decide +kernel)]; exact ⟨rfl, rfl⟩))
    (fun os started H enc _ F => ShardDurable_lifted os started H enc F)

end Go.Proofs.Ytjkganmkfhciiaa
