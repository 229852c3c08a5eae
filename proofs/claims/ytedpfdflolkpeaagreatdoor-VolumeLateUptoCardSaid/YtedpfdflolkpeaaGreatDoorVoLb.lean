/- volume: the cards of Maps and Late. -/
import Derived.Test.YtedpfdflolkpeaaGreatDoorVoN
import Derived.Test.YtedpfdflolkpeaaGreatDoorVoLa
set_option linter.unusedSimpArgs false
set_option linter.unusedVariables false
set_option linter.unnecessarySimpa false
set_option maxRecDepth 100000
namespace Go.Proofs.YtedpfdflolkpeaaGreatDoor
open Go.AM
theorem VolumeMaps_shapes : shapesOf Tryz.prog Tryz.f3.params.toList = some [(false, (.slice 1 (.int .i64))), (false, (.slice 10 (.pcons 1 (.int .u8) (.pcons 1 (.int .i64) (.pcons 1 (.int .i64) (.pcons 1 (.int .i64) (.pcons 4 (.pcons 1 (.int .i64) (.pcons 1 (.int .i64) (.pcons 1 (.int .i64) (.pcons 1 (.slice 1 (.int .u64)) .pnil)))) (.pcons 1 (.slice 1 .bool) (.pcons 1 .bool .pnil)))))))))] := by kernel_rfl
theorem VolumeMaps_does {H : Type} {h : AHeap} {avs : List Value} {ds : List (DataW H)} (hr : RdA h [(false, (.slice 1 (.int .i64))), (false, (.slice 10 (.pcons 1 (.int .u8) (.pcons 1 (.int .i64) (.pcons 1 (.int .i64) (.pcons 1 (.int .i64) (.pcons 4 (.pcons 1 (.int .i64) (.pcons 1 (.int .i64) (.pcons 1 (.int .i64) (.pcons 1 (.slice 1 (.int .u64)) .pnil)))) (.pcons 1 (.slice 1 .bool) (.pcons 1 .bool .pnil)))))))))] avs ds) (hb : Rows.uptoBulkAll ds ≤ 1048576) :
    Does Tryz.prog 3 avs.toArray h fun v _ => v = .bool true := by
  obtain ⟨x1, cs1, vs, ds', rfl, g1, hr, b1⟩ := hr.cons_inv (Reads.list (Reads.int _) rfl) bulkOk
  obtain ⟨x2, cs2, vs, ds', rfl, g2, hr, b2⟩ := hr.cons_inv (Reads.list rVAct_reads rfl) bulkOk
  rw [hr.nil_inv]
  obtain ⟨w1, rfl, hw1⟩ := g1
  obtain ⟨w2, rfl, hw2⟩ := g2
  exact mapsLaw_ok hw1 hw2
theorem VolumeMaps_contract (H : Type) (enc : TypeId × Value → H) (W : World) (base : Nat) (args : Array Value) (ds gs : List (DataW H)) (before : List MemPlace)
    (hval : ∀ (j : Nat) t v, Tryz.f3.params[j]? = some t → args[j]? = some v → Value.okWide Tryz.prog W .any base t v)
    (hW : DataW.Whole enc Tryz.prog Tryz.f3.params.toList Rows.volumeMapsSpec.vars false W args.toList ds gs before) (hk : Rows.uptoSmall H (ds ++ gs) = true) (hL : LayW W) :
    Calls Tryz.prog 3 args W fun e W' => ∃ v, e = .returned v ∧ Rows.volumeMapsSpec.post enc Tryz.prog Tryz.f3 false true false false W args v W' :=
  law_contract (tb := 4) laidOut (by kernel_rfl) (by kernel_rfl) Tryz.underlying4 rfl VolumeMaps_shapes (fun hl => by match ds, hl with | [d0, d1], _ => rfl) hval hW (fun h avs hr => VolumeMaps_does hr (bulk_of hk)) hL
set_option maxRecDepth 100000 in
theorem VolumeMaps_lifted (os : Os) (started : os.Started) (H : Type) (enc : TypeId × Value → H) (F : Stop.Interp) :
    ReturnsInHanded {} Tryz.checked os 3 .any ((Rows.OpenSpec.upto Rows.volumeMapsSpec).preRow enc Tryz.prog Tryz.f3 Rows.volumeMapsUptoRow.domain false [("errors.errorType", Rows.laid_errors_errorType)]) (((Rows.OpenSpec.upto Rows.volumeMapsSpec).at F).post enc Tryz.prog Tryz.f3 false true false false) := by
  refine returnsInHanded_of_row (C := Tryz.checked) (s := Rows.OpenSpec.upto Rows.volumeMapsSpec) own started (by kernel_rfl) Tryz.func3
    (witness_row_at (enc := enc) (C := Tryz.checked) (s := Rows.OpenSpec.upto Rows.volumeMapsSpec) false (laidWorld os) #[.slice none 0 0, .slice none 0 0] rfl (by kernel_rfl) (by kernel_rfl) (by kernel_rfl)
      (OpenSpec.preRow_of_cond 8 (x := ([.nil, .nil], [], [])) (by kernel_rfl) rfl (fun k hk => by cases hk; kernel_rfl) (by kernel_rfl) (laidWorld_met os _))) ?_
  intro W base args ds gs before hval hW _ hk _ hL _ _
  exact VolumeMaps_contract H enc W base args ds gs before hval hW (hk _ rfl) (lay_of_laid hL)
theorem VolumeMaps_proved : Rows.VolumeMapsUptoSaid :=
  OpenClaim.holds_of_cond 3 Tryz.f3 rfl rfl rfl rfl rfl rfl rfl ⟨rfl, rfl, rfl, rfl, rfl⟩ rfl rfl rfl rfl rfl (by kernel_rfl) Tryz.func3 (by kernel_rfl)
    (of_decide_eq_true (by kernel_rfl)) (by unfold Func.isWrapper; first | (rw [if_pos (by decide +kernel)]; kernel_rfl) | (rw [if_neg (by decide +kernel)]; exact ⟨rfl, rfl⟩))
    (fun os started H enc _ F => by rw [OpenClaim.pre_eq_preRow]; exact VolumeMaps_lifted os started H enc F)
theorem VolumeMaps_card : Rows.VolumeMapsUptoCardSaid :=
  Claim7.holds_tied_plain_at .later [] [.handle] true (true, "615c0543c95276a2418247d9a5cc049e59a347ca3faaf94e252972416da55f6b") true
    VolumeMaps_proved (fun _ h => by cases h) (by kernel_rfl) (fun _ h => by cases h) volumeMapsUpto_row_tie rfl ⟨rfl, rfl⟩ (by kernel_rfl) rfl
    (fun f fn hf hfn => by
      obtain rfl : f = 3 := Option.some.inj ((show Tryz.prog.funcNamed "jackstay/jackstaylaw18.VolumeMaps" = some 3 by kernel_rfl).symm.trans hf) |>.symm
      obtain rfl : fn = Tryz.f3 := (Option.some.inj (Tryz.func3.symm.trans hfn)).symm
      exact ⟨by kernel_rfl, fun j t ht => no_stand (show (Tryz.f3.params.toList.all fun t => !Tryz.prog.wantsStandIn t) = true by kernel_rfl) ht⟩)
    (by kernel_rfl)

theorem VolumeLate_shapes : shapesOf Tryz.prog Tryz.f4.params.toList = some [(false, (.slice 1 (.int .i64))), (false, (.slice 10 (.pcons 1 (.int .u8) (.pcons 1 (.int .i64) (.pcons 1 (.int .i64) (.pcons 1 (.int .i64) (.pcons 4 (.pcons 1 (.int .i64) (.pcons 1 (.int .i64) (.pcons 1 (.int .i64) (.pcons 1 (.slice 1 (.int .u64)) .pnil)))) (.pcons 1 (.slice 1 .bool) (.pcons 1 .bool .pnil)))))))))] := by kernel_rfl
theorem VolumeLate_does {H : Type} {h : AHeap} {avs : List Value} {ds : List (DataW H)} (hr : RdA h [(false, (.slice 1 (.int .i64))), (false, (.slice 10 (.pcons 1 (.int .u8) (.pcons 1 (.int .i64) (.pcons 1 (.int .i64) (.pcons 1 (.int .i64) (.pcons 4 (.pcons 1 (.int .i64) (.pcons 1 (.int .i64) (.pcons 1 (.int .i64) (.pcons 1 (.slice 1 (.int .u64)) .pnil)))) (.pcons 1 (.slice 1 .bool) (.pcons 1 .bool .pnil)))))))))] avs ds) (hb : Rows.uptoBulkAll ds ≤ 1048576) :
    Does Tryz.prog 4 avs.toArray h fun v _ => v = .bool true := by
  obtain ⟨x1, cs1, vs, ds', rfl, g1, hr, b1⟩ := hr.cons_inv (Reads.list (Reads.int _) rfl) bulkOk
  obtain ⟨x2, cs2, vs, ds', rfl, g2, hr, b2⟩ := hr.cons_inv (Reads.list rVAct_reads rfl) bulkOk
  rw [hr.nil_inv]
  obtain ⟨w1, rfl, hw1⟩ := g1
  obtain ⟨w2, rfl, hw2⟩ := g2
  exact lateLaw_ok hw1 hw2
theorem VolumeLate_contract (H : Type) (enc : TypeId × Value → H) (W : World) (base : Nat) (args : Array Value) (ds gs : List (DataW H)) (before : List MemPlace)
    (hval : ∀ (j : Nat) t v, Tryz.f4.params[j]? = some t → args[j]? = some v → Value.okWide Tryz.prog W .any base t v)
    (hW : DataW.Whole enc Tryz.prog Tryz.f4.params.toList Rows.volumeLateSpec.vars false W args.toList ds gs before) (hk : Rows.uptoSmall H (ds ++ gs) = true) (hL : LayW W) :
    Calls Tryz.prog 4 args W fun e W' => ∃ v, e = .returned v ∧ Rows.volumeLateSpec.post enc Tryz.prog Tryz.f4 false true false false W args v W' :=
  law_contract (tb := 4) laidOut (by kernel_rfl) (by kernel_rfl) Tryz.underlying4 rfl VolumeLate_shapes (fun hl => by match ds, hl with | [d0, d1], _ => rfl) hval hW (fun h avs hr => VolumeLate_does hr (bulk_of hk)) hL
set_option maxRecDepth 100000 in
theorem VolumeLate_lifted (os : Os) (started : os.Started) (H : Type) (enc : TypeId × Value → H) (F : Stop.Interp) :
    ReturnsInHanded {} Tryz.checked os 4 .any ((Rows.OpenSpec.upto Rows.volumeLateSpec).preRow enc Tryz.prog Tryz.f4 Rows.volumeLateUptoRow.domain false [("errors.errorType", Rows.laid_errors_errorType)]) (((Rows.OpenSpec.upto Rows.volumeLateSpec).at F).post enc Tryz.prog Tryz.f4 false true false false) := by
  refine returnsInHanded_of_row (C := Tryz.checked) (s := Rows.OpenSpec.upto Rows.volumeLateSpec) own started (by kernel_rfl) Tryz.func4
    (witness_row_at (enc := enc) (C := Tryz.checked) (s := Rows.OpenSpec.upto Rows.volumeLateSpec) false (laidWorld os) #[.slice none 0 0, .slice none 0 0] rfl (by kernel_rfl) (by kernel_rfl) (by kernel_rfl)
      (OpenSpec.preRow_of_cond 8 (x := ([.nil, .nil], [], [])) (by kernel_rfl) rfl (fun k hk => by cases hk; kernel_rfl) (by kernel_rfl) (laidWorld_met os _))) ?_
  intro W base args ds gs before hval hW _ hk _ hL _ _
  exact VolumeLate_contract H enc W base args ds gs before hval hW (hk _ rfl) (lay_of_laid hL)
theorem VolumeLate_proved : Rows.VolumeLateUptoSaid :=
  OpenClaim.holds_of_cond 4 Tryz.f4 rfl rfl rfl rfl rfl rfl rfl ⟨rfl, rfl, rfl, rfl, rfl⟩ rfl rfl rfl rfl rfl (by kernel_rfl) Tryz.func4 (by kernel_rfl)
    (of_decide_eq_true (by kernel_rfl)) (by unfold Func.isWrapper; first | (rw [if_pos (by decide +kernel)]; kernel_rfl) | (rw [if_neg (by decide +kernel)]; exact ⟨rfl, rfl⟩))
    (fun os started H enc _ F => by rw [OpenClaim.pre_eq_preRow]; exact VolumeLate_lifted os started H enc F)
theorem VolumeLate_card : Rows.VolumeLateUptoCardSaid :=
  Claim7.holds_tied_plain_at .later [] [.handle] true (true, "615c0543c95276a2418247d9a5cc049e59a347ca3faaf94e252972416da55f6b") true
    VolumeLate_proved (fun _ h => by cases h) (by kernel_rfl) (fun _ h => by cases h) volumeLateUpto_row_tie rfl ⟨rfl, rfl⟩ (by kernel_rfl) rfl
    (fun f fn hf hfn => by
      obtain rfl : f = 4 := Option.some.inj ((show Tryz.prog.funcNamed "jackstay/jackstaylaw18.VolumeLate" = some 4 by kernel_rfl).symm.trans hf) |>.symm
      obtain rfl : fn = Tryz.f4 := (Option.some.inj (Tryz.func4.symm.trans hfn)).symm
      exact ⟨by kernel_rfl, fun j t ht => no_stand (show (Tryz.f4.params.toList.all fun t => !Tryz.prog.wantsStandIn t) = true by kernel_rfl) ht⟩)
    (by kernel_rfl)

end Go.Proofs.YtedpfdflolkpeaaGreatDoor
