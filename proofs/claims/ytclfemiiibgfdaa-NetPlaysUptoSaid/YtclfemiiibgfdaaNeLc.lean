/- net: NetPlays, NetPacks, for every input of the bound's size. -/
import Derived.Test.YtclfemiiibgfdaaNeP
import Derived.Test.YtclfemiiibgfdaaNeR
import Derived.Test.YtclfemiiibgfdaaAmLawC
import Derived.Test.YtclfemiiibgfdaaRows
set_option linter.unusedSimpArgs false
set_option linter.unusedVariables false
set_option linter.unnecessarySimpa false
set_option maxRecDepth 100000
namespace Go.Proofs.Ytclfemiiibgfdaa
open Go.AM
theorem bulkOk {H : Type} : BulkOk (H := H) Rows.uptoBulk Rows.uptoBulkAll where
  lit l := by cases l <;> simp [Rows.uptoBulk]
  str s := by simp [Rows.uptoBulk]
  nil := by simp [Rows.uptoBulk]
  slice e s := by simp [Rows.uptoBulk]
  agg p := by simp [Rows.uptoBulk]
  none := by simp [Rows.uptoBulkAll]
  cons d r := by simp [Rows.uptoBulkAll]
theorem bulk_append {H : Type} (l r : List (DataW H)) : Rows.uptoBulkAll (l ++ r) = Rows.uptoBulkAll l + Rows.uptoBulkAll r := by
  induction l with
  | nil => simp [Rows.uptoBulkAll]
  | cons x l ih => simp only [List.cons_append, Rows.uptoBulkAll, ih]; omega
theorem bulk_of {H : Type} {ds gs : List (DataW H)} (hk : Rows.uptoSmall H (ds ++ gs) = true) : Rows.uptoBulkAll ds ≤ 1048576 := by
  have h : Rows.uptoBulkAll (ds ++ gs) ≤ 1048576 := of_decide_eq_true hk
  rw [bulk_append] at h; omega
theorem own : ownKnob Try.prog.godebug = none := by kernel_rfl
theorem laidOut : laidOutB Try.prog = true := by kernel_rfl
theorem len_one {α : Type} (l : List α) : (l.map fun _ => 1).sum = l.length := by
  induction l with
  | nil => rfl
  | cons x l ih => simp [ih]; omega
theorem rMsg_reads : rMsg.Reads (.pcons 1 (.int .i64) (.pcons 1 (.int .i64) (.pcons 1 (.int .i64) (.pcons 1 (.int .i64) (.pcons 1 (.int .i64) (.pcons 1 (.int .i64) (.pcons 1 (.slice 1 (.int .u8)) .pnil))))))) (fun m => 1 + (1 + (1 + (1 + (1 + (1 + ((m.load.map fun _ => 1).sum + 1))))))) :=
  Reads.via (Reads.pair (Reads.int _) (Reads.pair (Reads.int _) (Reads.pair (Reads.int _) (Reads.pair (Reads.int _) (Reads.pair (Reads.int _) (Reads.pair (Reads.int _) (Reads.last (Reads.list (Reads.nat (by decide)) rfl)))))))) (g := fun x => ⟨x.1, x.2.1, x.2.2.1, x.2.2.2.1, x.2.2.2.2.1, x.2.2.2.2.2.1, x.2.2.2.2.2.2⟩) (fun _ => rfl)
theorem rNAct_reads : rNAct.Reads (.pcons 1 (.int .u8) (.pcons 1 (.int .i64) (.pcons 1 (.int .i64) (.pcons 1 (.int .u8) (.pcons 1 (.slice 1 (.slice 1 (.int .u8))) .pnil))))) (fun a => 1 + (1 + (1 + (1 + ((a.b.map fun x => (x.map fun _ => 1).sum + 1).sum + 1))))) :=
  Reads.via (Reads.pair (Reads.nat (by decide)) (Reads.pair (Reads.int _) (Reads.pair (Reads.int _) (Reads.pair (Reads.nat (by decide)) (Reads.last (Reads.list (Reads.list (Reads.nat (by decide)) rfl) rfl)))))) (g := fun x => ⟨x.1, x.2.1, x.2.2.1, x.2.2.2.1, x.2.2.2.2⟩) (fun _ => rfl)
theorem mem_bound {α : Type} {l : List α} {f : α → Nat} {x : α} (hx : x ∈ l) : f x ≤ (l.map f).sum := by
  induction l with
  | nil => cases hx
  | cons y l ih =>
    rw [List.map_cons, List.sum_cons]
    rcases List.mem_cons.1 hx with rfl | hx
    · omega
    · have := ih hx; omega
theorem NetPlays_shapes : shapesOf Try.prog Try.f6.params.toList = some [(false, (.slice 5 (.pcons 1 (.int .u8) (.pcons 1 (.int .i64) (.pcons 1 (.int .i64) (.pcons 1 (.int .u8) (.pcons 1 (.slice 1 (.slice 1 (.int .u8))) .pnil)))))))] := by kernel_rfl
theorem NetPlays_does {H : Type} {h : AHeap} {avs : List Value} {ds : List (DataW H)} (hr : RdA h [(false, (.slice 5 (.pcons 1 (.int .u8) (.pcons 1 (.int .i64) (.pcons 1 (.int .i64) (.pcons 1 (.int .u8) (.pcons 1 (.slice 1 (.slice 1 (.int .u8))) .pnil)))))))] avs ds) (hb : Rows.uptoBulkAll ds ≤ 1048576) :
    Does Try.prog 6 avs.toArray h fun v _ => v = .bool true := by
  obtain ⟨x1, cs1, vs, ds', rfl, g1, hr, b1⟩ := hr.cons_inv (Reads.list rNAct_reads rfl) bulkOk
  rw [hr.nil_inv]
  obtain ⟨w, rfl, hw⟩ := g1
  refine plays_law hw fun a ha x hx => ?_
  have m1 := mem_bound (f := fun a : NAct => 1 + (1 + (1 + (1 + ((a.b.map fun x => (x.map fun _ => 1).sum + 1).sum + 1))))) ha
  have m2 := mem_bound (f := fun x : List Nat => (x.map fun _ => 1).sum + 1) hx
  simp only [len_one] at m1 m2 b1
  omega
theorem NetPlays_contract (H : Type) (enc : TypeId × Value → H) (W : World) (base : Nat) (args : Array Value) (ds gs : List (DataW H)) (before : List MemPlace)
    (hval : ∀ (j : Nat) t v, Try.f6.params[j]? = some t → args[j]? = some v → Value.okWide Try.prog W .any base t v)
    (hW : DataW.Whole enc Try.prog Try.f6.params.toList Rows.netPlaysSpec.vars false W args.toList ds gs before) (hk : Rows.uptoSmall H (ds ++ gs) = true) :
    Calls Try.prog 6 args W fun e W' => ∃ v, e = .returned v ∧ Rows.netPlaysSpec.post enc Try.prog Try.f6 false true false false W args v W' :=
  law_contract (tb := 4) laidOut (by kernel_rfl) (by kernel_rfl) Try.underlying4 rfl NetPlays_shapes (fun hl => by match ds, hl with | [d0], _ => rfl) hval hW (fun h avs hr => NetPlays_does hr (bulk_of hk))
set_option maxRecDepth 100000 in
theorem NetPlays_lifted (os : Os) (started : os.Started) (H : Type) (enc : TypeId × Value → H) (F : Stop.Interp) :
    ReturnsInHanded {} Try.checked os 6 .any ((Rows.OpenSpec.upto Rows.netPlaysSpec).pre6 enc Try.prog Try.f6 Rows.netPlaysUptoRow.domain false) (((Rows.OpenSpec.upto Rows.netPlaysSpec).at F).post enc Try.prog Try.f6 false true false false) := by
  refine returnsInHanded_of_cond (C := Try.checked) (s := Rows.OpenSpec.upto Rows.netPlaysSpec) (k := Rows.uptoSmall) rfl own started (by kernel_rfl) Try.func6
    (OpenSpec.witness (enc := enc) (C := Try.checked) (s := Rows.OpenSpec.upto Rows.netPlaysSpec) (k := Rows.uptoSmall) rfl false ⟨#[], #[.slice none 0 0], []⟩ 8 (by kernel_rfl) (by kernel_rfl) (by kernel_rfl)
      (x := ([.nil], [], [])) (by kernel_rfl) rfl (by kernel_rfl)) ?_
  intro W base args ds gs before hval hW _ hk _
  exact NetPlays_contract H enc W base args ds gs before hval hW hk
theorem NetPlays_proved : Rows.NetPlaysUptoSaid :=
  OpenClaim.holds_of_cond 6 Try.f6 rfl rfl rfl rfl rfl rfl rfl ⟨rfl, rfl, rfl, rfl, rfl⟩ rfl rfl rfl rfl rfl (by kernel_rfl) Try.func6 (by kernel_rfl)
    (of_decide_eq_true (by kernel_rfl)) (by unfold Func.isWrapper; first | (rw [if_pos (by decide +kernel)]; kernel_rfl) | (rw [if_neg (by decide +kernel)]; exact ⟨rfl, rfl⟩))
    (fun os started H enc _ F => NetPlays_lifted os started H enc F)

theorem NetPacks_shapes : shapesOf Try.prog Try.f8.params.toList = some [(true, (.pcons 1 (.int .i64) (.pcons 1 (.int .i64) (.pcons 1 (.int .i64) (.pcons 1 (.int .i64) (.pcons 1 (.int .i64) (.pcons 1 (.int .i64) (.pcons 1 (.slice 1 (.int .u8)) .pnil)))))))), (false, (.slice 1 (.int .u8)))] := by kernel_rfl
theorem NetPacks_does {H : Type} {h : AHeap} {avs : List Value} {ds : List (DataW H)} (hr : RdA h [(true, (.pcons 1 (.int .i64) (.pcons 1 (.int .i64) (.pcons 1 (.int .i64) (.pcons 1 (.int .i64) (.pcons 1 (.int .i64) (.pcons 1 (.int .i64) (.pcons 1 (.slice 1 (.int .u8)) .pnil)))))))), (false, (.slice 1 (.int .u8)))] avs ds) (hb : Rows.uptoBulkAll ds ≤ 1048576) :
    Does Try.prog 8 avs.toArray h fun v _ => v = .bool true := by
  obtain ⟨x1, cs1, vs, ds', rfl, g1, hr, b1⟩ := hr.cons_inv rMsg_reads bulkOk
  obtain ⟨x2, cs2, vs, ds', rfl, g2, hr, b2⟩ := hr.cons_inv (Reads.list (Reads.nat (by decide)) rfl) bulkOk
  rw [hr.nil_inv]
  obtain ⟨v, rfl, -, hs⟩ := rMsg_iff.1 g1
  obtain ⟨w, rfl, hw⟩ := g2
  rw [len_one] at b2
  exact packs_law hs hw (by omega)
theorem NetPacks_contract (H : Type) (enc : TypeId × Value → H) (W : World) (base : Nat) (args : Array Value) (ds gs : List (DataW H)) (before : List MemPlace)
    (hval : ∀ (j : Nat) t v, Try.f8.params[j]? = some t → args[j]? = some v → Value.okWide Try.prog W .any base t v)
    (hW : DataW.Whole enc Try.prog Try.f8.params.toList Rows.netPacksSpec.vars false W args.toList ds gs before) (hk : Rows.uptoSmall H (ds ++ gs) = true) :
    Calls Try.prog 8 args W fun e W' => ∃ v, e = .returned v ∧ Rows.netPacksSpec.post enc Try.prog Try.f8 false true false false W args v W' :=
  law_contract (tb := 4) laidOut (by kernel_rfl) (by kernel_rfl) Try.underlying4 rfl NetPacks_shapes (fun hl => by match ds, hl with | [d0, d1], _ => rfl) hval hW (fun h avs hr => NetPacks_does hr (bulk_of hk))
set_option maxRecDepth 100000 in
theorem NetPacks_lifted (os : Os) (started : os.Started) (H : Type) (enc : TypeId × Value → H) (F : Stop.Interp) :
    ReturnsInHanded {} Try.checked os 8 .any ((Rows.OpenSpec.upto Rows.netPacksSpec).pre6 enc Try.prog Try.f8 Rows.netPacksUptoRow.domain false) (((Rows.OpenSpec.upto Rows.netPacksSpec).at F).post enc Try.prog Try.f8 false true false false) := by
  refine returnsInHanded_of_cond (C := Try.checked) (s := Rows.OpenSpec.upto Rows.netPacksSpec) (k := Rows.uptoSmall) rfl own started (by kernel_rfl) Try.func8
    (OpenSpec.witness (enc := enc) (C := Try.checked) (s := Rows.OpenSpec.upto Rows.netPacksSpec) (k := Rows.uptoSmall) rfl false ⟨#[], #[.agg #[.int .i64 0, .int .i64 0, .int .i64 0, .int .i64 0, .int .i64 0, .int .i64 0, .slice none 0 0], .slice none 0 0], []⟩ 8 (by kernel_rfl) (by kernel_rfl) (by kernel_rfl)
      (x := ([.agg [.lit (.int .i64 0), .lit (.int .i64 0), .lit (.int .i64 0), .lit (.int .i64 0), .lit (.int .i64 0), .lit (.int .i64 0), .nil], .nil], [], [])) (by kernel_rfl) rfl (by kernel_rfl)) ?_
  intro W base args ds gs before hval hW _ hk _
  exact NetPacks_contract H enc W base args ds gs before hval hW hk
theorem NetPacks_proved : Rows.NetPacksUptoSaid :=
  OpenClaim.holds_of_cond 8 Try.f8 rfl rfl rfl rfl rfl rfl rfl ⟨rfl, rfl, rfl, rfl, rfl⟩ rfl rfl rfl rfl rfl (by kernel_rfl) Try.func8 (by kernel_rfl)
    (of_decide_eq_true (by kernel_rfl)) (by unfold Func.isWrapper; first | (rw [if_pos (by decide +kernel)]; kernel_rfl) | (rw [if_neg (by decide +kernel)]; exact ⟨rfl, rfl⟩))
    (fun os started H enc _ F => NetPacks_lifted os started H enc F)

end Go.Proofs.Ytclfemiiibgfdaa
