/- volume: the card of Nobody. -/
import Derived.Test.YtedpfdflolkpeaaGreatDoorVoV
import Derived.Test.YtedpfdflolkpeaaGreatDoorVoLa
set_option linter.unusedSimpArgs false
set_option linter.unusedVariables false
set_option linter.unnecessarySimpa false
set_option maxRecDepth 100000
namespace Go.Proofs.YtedpfdflolkpeaaGreatDoor
open Go.AM
theorem VolumeNobody_shapes : shapesOf Tryz.prog Tryz.f9.params.toList = some [(true, (.pcons 1 (.int .u8) (.pcons 1 (.int .i64) (.pcons 1 (.int .i64) (.pcons 1 (.int .i64) (.pcons 4 (.pcons 1 (.int .i64) (.pcons 1 (.int .i64) (.pcons 1 (.int .i64) (.pcons 1 (.slice 1 (.int .u64)) .pnil)))) (.pcons 1 (.slice 1 .bool) (.pcons 1 .bool .pnil))))))))] := by kernel_rfl
theorem VolumeNobody_does {H : Type} {h : AHeap} {avs : List Value} {ds : List (DataW H)} (hr : RdA h [(true, (.pcons 1 (.int .u8) (.pcons 1 (.int .i64) (.pcons 1 (.int .i64) (.pcons 1 (.int .i64) (.pcons 4 (.pcons 1 (.int .i64) (.pcons 1 (.int .i64) (.pcons 1 (.int .i64) (.pcons 1 (.slice 1 (.int .u64)) .pnil)))) (.pcons 1 (.slice 1 .bool) (.pcons 1 .bool .pnil))))))))] avs ds) (hb : Rows.uptoBulkAll ds ≤ 1048576) :
    Does Tryz.prog 9 avs.toArray h fun v _ => v = .bool true := by
  obtain ⟨x1, cs1, vs, ds', rfl, g1, hr, b1⟩ := hr.cons_inv rVAct_reads bulkOk
  rw [hr.nil_inv]
  obtain ⟨d3, w3, rfl, hi, hd, hw⟩ := rVAct_iff.1 g1
  exact nobodyLaw_ok hi hd hw
theorem VolumeNobody_contract (H : Type) (enc : TypeId × Value → H) (W : World) (base : Nat) (args : Array Value) (ds gs : List (DataW H)) (before : List MemPlace)
    (hval : ∀ (j : Nat) t v, Tryz.f9.params[j]? = some t → args[j]? = some v → Value.okWide Tryz.prog W .any base t v)
    (hW : DataW.Whole enc Tryz.prog Tryz.f9.params.toList Rows.volumeNobodySpec.vars false W args.toList ds gs before) (hk : Rows.uptoSmall H (ds ++ gs) = true) (hL : LayW W) :
    Calls Tryz.prog 9 args W fun e W' => ∃ v, e = .returned v ∧ Rows.volumeNobodySpec.post enc Tryz.prog Tryz.f9 false true false false W args v W' :=
  law_contract (tb := 4) laidOut (by kernel_rfl) (by kernel_rfl) Tryz.underlying4 rfl VolumeNobody_shapes (fun hl => by match ds, hl with | [d0], _ => rfl) hval hW (fun h avs hr => VolumeNobody_does hr (bulk_of hk)) hL
set_option maxRecDepth 100000 in
theorem VolumeNobody_lifted (os : Os) (started : os.Started) (H : Type) (enc : TypeId × Value → H) (F : Stop.Interp) :
    ReturnsInHanded {} Tryz.checked os 9 .any ((Rows.OpenSpec.upto Rows.volumeNobodySpec).preRow enc Tryz.prog Tryz.f9 Rows.volumeNobodyUptoRow.domain false [("errors.errorType", Rows.laid_errors_errorType)]) (((Rows.OpenSpec.upto Rows.volumeNobodySpec).at F).post enc Tryz.prog Tryz.f9 false true false false) := by
  refine returnsInHanded_of_row (C := Tryz.checked) (s := Rows.OpenSpec.upto Rows.volumeNobodySpec) own started (by kernel_rfl) Tryz.func9
    (witness_row_at (enc := enc) (C := Tryz.checked) (s := Rows.OpenSpec.upto Rows.volumeNobodySpec) false (laidWorld os) #[.agg #[.int .u8 0, .int .i64 0, .int .i64 0, .int .i64 0, .int .i64 0, .int .i64 0, .int .i64 0, .slice none 0 0, .slice none 0 0, .bool false]] rfl (by kernel_rfl) (by kernel_rfl) (by kernel_rfl)
      (OpenSpec.preRow_of_cond 8 (x := ([.agg [.lit (.int .u8 0), .lit (.int .i64 0), .lit (.int .i64 0), .lit (.int .i64 0), .agg [.lit (.int .i64 0), .lit (.int .i64 0), .lit (.int .i64 0), .nil], .nil, .lit (.bool false)]], [], [])) (by kernel_rfl) rfl (fun k hk => by cases hk; kernel_rfl) (by kernel_rfl) (laidWorld_met os _))) ?_
  intro W base args ds gs before hval hW _ hk _ hL _ _
  exact VolumeNobody_contract H enc W base args ds gs before hval hW (hk _ rfl) (lay_of_laid hL)
theorem VolumeNobody_proved : Rows.VolumeNobodyUptoSaid :=
  OpenClaim.holds_of_cond 9 Tryz.f9 rfl rfl rfl rfl rfl rfl rfl ⟨rfl, rfl, rfl, rfl, rfl⟩ rfl rfl rfl rfl rfl (by kernel_rfl) Tryz.func9 (by kernel_rfl)
    (of_decide_eq_true (by kernel_rfl)) (by unfold Func.isWrapper; first | (rw [if_pos (by decide +kernel)]; kernel_rfl) | (rw [if_neg (by decide +kernel)]; exact ⟨rfl, rfl⟩))
    (fun os started H enc _ F => by rw [OpenClaim.pre_eq_preRow]; exact VolumeNobody_lifted os started H enc F)
theorem VolumeNobody_card : Rows.VolumeNobodyUptoCardSaid :=
  Claim7.holds_tied_plain_at .later [] [.handle] true (true, "615c0543c95276a2418247d9a5cc049e59a347ca3faaf94e252972416da55f6b") true
    VolumeNobody_proved (fun _ h => by cases h) (by kernel_rfl) (fun _ h => by cases h) volumeNobodyUpto_row_tie rfl ⟨rfl, rfl⟩ (by kernel_rfl) rfl
    (fun f fn hf hfn => by
      obtain rfl : f = 9 := Option.some.inj ((show Tryz.prog.funcNamed "jackstay/jackstaylaw18.VolumeNobody" = some 9 by kernel_rfl).symm.trans hf) |>.symm
      obtain rfl : fn = Tryz.f9 := (Option.some.inj (Tryz.func9.symm.trans hfn)).symm
      exact ⟨by kernel_rfl, fun j t ht => no_stand (show (Tryz.f9.params.toList.all fun t => !Tryz.prog.wantsStandIn t) = true by kernel_rfl) ht⟩)
    (by kernel_rfl)

end Go.Proofs.YtedpfdflolkpeaaGreatDoor
