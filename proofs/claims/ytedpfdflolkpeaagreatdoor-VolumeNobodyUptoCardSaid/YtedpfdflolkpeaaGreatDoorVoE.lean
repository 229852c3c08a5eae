/- volume: errors.As at a refusal: Go's own text, over the model's entries for the library's light reflection (after the kit's worked example of errors.As); and what number comes to. -/
import Derived.Test.YtedpfdflolkpeaaGreatDoorVoD
import Derived.WalkKit
import Derived.LaidEql
import Derived.Stop.Asserts
import Derived.RowKitTokens
set_option linter.unusedSimpArgs false
set_option linter.unusedVariables false
set_option linter.unnecessarySimpa false
set_option maxRecDepth 100000
namespace Go.Proofs.YtedpfdflolkpeaaGreatDoor
open Go.RowKit Go.Extern.Stop Go.Stop Go.Extern
/-- errors.As(nil, target). -/
theorem as_nil (t : Value) (w : World) :
    Calls Tryz.prog 105 #[.nilIface, t] w fun e w' => e = .returned (.bool false) ∧ w' = w := by
  go_enter Tryz.func105, Tryz.ntmps105
  go_wp2
  go_ret
  exact ⟨rfl, rfl⟩

/-! ### CLOSED FACTS ON THE MODEL's ENTRIES FOR internal/reflectlite, at this program's types: 25: *p.E · 27: **p.E · 23: error · 45: reflectlite's rtype · 1: how many package-level variables the dump has -/
theorem rl_valueOf27 (t : Addr) (w : World) : (ReflectliteValue.unpack (.iface 159 (.pointer (some t)))).run Tryz.prog w
    = .ok (.agg #[.pointer (some ⟨1, 159, none⟩), .pointer (some ⟨w.heap.size, 0, none⟩), .int .u64 150]) (w.alloc (.cells #[.pointer (some t)] 159)) := by kernel_rfl
theorem rl_type27 (a : Addr) (w : World) : (ReflectliteValue.methodAny (ReflectliteValue.valueError "reflectlite.Value.Type" 0) (fun t _ _ _ => ReflectliteType.toType t) #[.agg #[.pointer (some ⟨1, 159, none⟩), .pointer (some a), .int .u64 150]]).run Tryz.prog w
    = .ok (.iface 228 (.agg #[.pointer (some ⟨1, 159, none⟩)])) w := by kernel_rfl
theorem rl_methodKind (h : Value) (w : World) : (Go.method 390 228 (.agg #[h]) "Kind").run Tryz.prog w = .ok (193, h) w := by kernel_rfl
theorem rl_kind27 (w : World) : ((ReflectliteType.abiMethod fun t => (fun a : Nat => Value.int IntKind.u8 (a : Int)) <$> Rtype.kind t) #[.pointer (some ⟨1, 159, none⟩)]).run Tryz.prog w = .ok (.int .u8 22) w := by kernel_rfl
theorem rl_kind25 (w : World) : ((ReflectliteType.abiMethod fun t => (fun a : Nat => Value.int IntKind.u8 (a : Int)) <$> Rtype.kind t) #[.pointer (some ⟨1, 157, none⟩)]).run Tryz.prog w = .ok (.int .u8 22) w := by kernel_rfl

/-! ### THE ENTRIES THAT READ OR WRITE MEMORY: laws with a premise on the cell (after Derived/Lib/ReflectliteSlice.lean's manner: each unfolding a lemma of its own, by rfl) -/
theorem rlm (z : Sem Value) (f : TypeId → Addr → Nat → Nat → Sem Value) (v : Value) :
    ReflectliteValue.method z f #[v] = (do match ← ReflectliteValue.parts v with | none => z | some (t, a, fl) => f t a fl (fl % 32)) := rfl
theorem rl_parts27 (a : Addr) (w : World) : (ReflectliteValue.parts (.agg #[.pointer (some ⟨1, 159, none⟩), .pointer (some a), .int .u64 150])).run Tryz.prog w = .ok (some (159, a, 150)) w := by kernel_rfl
/-- (Value).IsNil at the Value of a **p.E that is not nil. -/
theorem rl_isNil27 (a p : Addr) (W : World) (ha : W.cell? a = some (.pointer (some p))) :
    (ReflectliteValue.method (ReflectliteValue.valueError "reflectlite.Value.IsNil" 0) ReflectliteValue.isNil #[.agg #[.pointer (some ⟨1, 159, none⟩), .pointer (some a), .int .u64 150]]).run Tryz.prog W = .ok (.bool false) W := by
  rw [rlm]
  simp only [Sem.run_bind, rl_parts27, Result.andThen]
  simp [ReflectliteValue.isNil, loadVar, isAgg, underlying, Tryz.underlying159, ha, Result.andThen]

theorem rl_methodElem (h : Value) (w : World) : (Go.method 390 228 (.agg #[h]) "Elem").run Tryz.prog w = .ok (205, .agg #[h]) w := by kernel_rfl
theorem rl_methodImplements (h : Value) (w : World) : (Go.method 390 228 (.agg #[h]) "Implements").run Tryz.prog w = .ok (206, .agg #[h]) w := by kernel_rfl
theorem rl_methodAssignableTo (h : Value) (w : World) : (Go.method 390 228 (.agg #[h]) "AssignableTo").run Tryz.prog w = .ok (203, .agg #[h]) w := by kernel_rfl
theorem rl_elem27 (w : World) : (ReflectliteType.method ReflectliteType.elem #[.agg #[.pointer (some ⟨1, 159, none⟩)]]).run Tryz.prog w = .ok (.iface 228 (.agg #[.pointer (some ⟨1, 157, none⟩)])) w := by kernel_rfl
theorem rl_implements25 (w : World) : (ReflectliteType.relation "Implements" ReflectliteType.implements_ #[.agg #[.pointer (some ⟨1, 157, none⟩)], .iface 228 (.agg #[.pointer (some ⟨1, 112, none⟩)])]).run Tryz.prog w = .ok (.bool true) w := by kernel_rfl
theorem rl_typeOf25 (v : Value) (w : World) : (ReflectliteType.typeOf #[.iface 157 v]).run Tryz.prog w = .ok (.iface 228 (.agg #[.pointer (some ⟨1, 157, none⟩)])) w := by kernel_rfl
theorem rl_assignable25 (w : World) : (ReflectliteType.relation "AssignableTo" ReflectliteType.assignableTo #[.agg #[.pointer (some ⟨1, 157, none⟩)], .iface 228 (.agg #[.pointer (some ⟨1, 157, none⟩)])]).run Tryz.prog w = .ok (.bool true) w := by kernel_rfl
theorem rl_valueOf25 (e : Addr) (w : World) : (ReflectliteValue.unpack (.iface 157 (.pointer (some e)))).run Tryz.prog w
    = .ok (.agg #[.pointer (some ⟨1, 157, none⟩), .pointer (some ⟨w.heap.size, 0, none⟩), .int .u64 150]) (w.alloc (.cells #[.pointer (some e)] 157)) := by kernel_rfl

theorem rl_elemOf27 (w : World) : (Rtype.elem? 159).run Tryz.prog w = .ok (some 157) w := by kernel_rfl
theorem rl_mk25 (p : Addr) (w : World) : (ReflectliteValue.mk 157 p ReflectliteValue.flagAddr).run Tryz.prog w = .ok (.agg #[.pointer (some ⟨1, 157, none⟩), .pointer (some p), .int .u64 406]) w := by kernel_rfl
/-- (Value).Elem at the Value of a **p.E that is not nil: the Value of the *p.E variable that it points to, addressable. -/
theorem rl_elemV27 (a p : Addr) (W : World) (ha : W.cell? a = some (.pointer (some p))) :
    (ReflectliteValue.method (ReflectliteValue.valueError "reflectlite.Value.Elem" 0) ReflectliteValue.elem #[.agg #[.pointer (some ⟨1, 159, none⟩), .pointer (some a), .int .u64 150]]).run Tryz.prog W
      = .ok (.agg #[.pointer (some ⟨1, 157, none⟩), .pointer (some p), .int .u64 406]) W := by
  rw [rlm]
  simp only [Sem.run_bind, rl_parts27, Result.andThen]
  simp [ReflectliteValue.elem, loadVar, isAgg, underlying, Tryz.underlying159, ha, Result.andThen, rl_elemOf27, rl_mk25]
theorem rls (v x : Value) : ReflectliteValue.set #[v, x] = (do
    let (some (dst, a, fl), some (src, b, _)) := (← ReflectliteValue.parts v, ← ReflectliteValue.parts x)
      | unsupported (.noEntry "extern/(internal/reflectlite.Value).Set.zeroValue")
    if fl / ReflectliteValue.flagAddr % 2 == 0 then unsupported (.noEntry "extern/(internal/reflectlite.Value).Set.unaddressable")
    let val ← loadVar src b
    if ← Rtype.directlyAssignable dst src then storeVar dst a val
    else if ← Rtype.implements dst src then
      if (← Rtype.kind src) == 20 then
        match val with
        | .nilIface => unsupported (.noEntry "extern/reflectlite: a nil value of one interface type handed on as a value of another")
        | _ => storeVar dst a val
      else storeVar dst a (.iface src val)
    else panicString ("reflectlite.Set: value of type " ++ (← Rtype.spelt src) ++ " is not assignable to type " ++ (← Rtype.spelt dst))
    pure (.tuple #[])) := rfl
theorem rl_parts25a (a : Addr) (w : World) : (ReflectliteValue.parts (.agg #[.pointer (some ⟨1, 157, none⟩), .pointer (some a), .int .u64 406])).run Tryz.prog w = .ok (some (157, a, 406)) w := by kernel_rfl
theorem rl_parts25 (a : Addr) (w : World) : (ReflectliteValue.parts (.agg #[.pointer (some ⟨1, 157, none⟩), .pointer (some a), .int .u64 150])).run Tryz.prog w = .ok (some (157, a, 150)) w := by kernel_rfl
theorem rl_direct25 (w : World) : (Rtype.directlyAssignable 157 157).run Tryz.prog w = .ok true w := by kernel_rfl
theorem rl_size25 (w : World) : (sizeOf 157).run Tryz.prog w = .ok 1 w := by kernel_rfl
/-- (Value).Set: the *p.E variable at 'ta' gets what the Value's own variable 'b' holds. -/
theorem rl_set25 (ta b e : Addr) (old : Value) (W : World) (hb : W.cell? b = some (.pointer (some e))) (ht : W.cell? ta = some old) (hf : W.frozen? ta = false) :
    (ReflectliteValue.set #[.agg #[.pointer (some ⟨1, 157, none⟩), .pointer (some ta), .int .u64 406], .agg #[.pointer (some ⟨1, 157, none⟩), .pointer (some b), .int .u64 150]]).run Tryz.prog W
      = .ok (.tuple #[]) (W.setCell ta (.pointer (some e))) := by
  rw [rls]
  simp only [Sem.run_bind, rl_parts25a, rl_parts25, Result.andThen]
  simp [ReflectliteValue.flagAddr, loadVar, isAgg, underlying, Tryz.underlying157, hb, Result.andThen, rl_direct25, storeVar, Value.cells, storeCells, Addr.add]
  rw [run_store Tryz.prog W ta _ _ (by rfl)]
  simp [ht, hf]

set_option maxHeartbeats 4000000 in
theorem as_hit (e t : Addr) (old : Value) (w : World) (hg : w.cell? ⟨0, 0, none⟩ = some (.iface 228 (.agg #[.pointer (some ⟨1, 112, none⟩)]))) (ht0 : w.cell? t = some old) (hf0 : w.frozen? t = false) :
    Calls Tryz.prog 105 #[.iface 157 (.pointer (some e)), .iface 159 (.pointer (some t))] w fun ev w' => ev = .returned (.bool true) ∧ w' = ((((w.alloc (.cells #[.pointer (some t)] 159)).alloc (.cells #[.pointer (some ⟨1, 159, none⟩), .pointer (some ⟨w.heap.size, 0, none⟩), .int .u64 150] 200)).alloc (.cells #[.pointer (some ⟨1, 159, none⟩), .pointer (some ⟨w.heap.size, 0, none⟩), .int .u64 150] 200)).alloc (.cells #[.pointer (some e)] 157)).setCell t (.pointer (some e)) := by
  have h6 := @run_callFunc_extern Tryz.prog 135 _ (fun args => ReflectliteValue.unpack (args.getD 0 (.tuple #[]))) Tryz.func135 (by kernel_rfl) (by kernel_rfl) (by kernel_rfl) (by kernel_rfl)
  have h7 := @run_callFunc_extern Tryz.prog 136 _ (ReflectliteValue.methodAny (ReflectliteValue.valueError "reflectlite.Value.Type" 0) (fun t _ _ _ => ReflectliteType.toType t)) Tryz.func136 (by kernel_rfl) (by kernel_rfl) (by kernel_rfl) (by kernel_rfl)
  have h8 := @run_callFunc_extern Tryz.prog 137 _ (ReflectliteValue.method (ReflectliteValue.valueError "reflectlite.Value.IsNil" 0) ReflectliteValue.isNil) Tryz.func137 (by kernel_rfl) (by kernel_rfl) (by kernel_rfl) (by kernel_rfl)
  have h27 := @run_callFunc_extern Tryz.prog 193 _ (ReflectliteType.abiMethod fun t => do pure (.int .u8 (← Rtype.kind t))) Tryz.func193 (by kernel_rfl) (by kernel_rfl) (by kernel_rfl) (by kernel_rfl)
  have h37 := @run_callFunc_extern Tryz.prog 205 _ (ReflectliteType.method ReflectliteType.elem) Tryz.func205 (by kernel_rfl) (by kernel_rfl) (by kernel_rfl) (by kernel_rfl)
  have h38 := @run_callFunc_extern Tryz.prog 206 _ (ReflectliteType.relation "Implements" ReflectliteType.implements_) Tryz.func206 (by kernel_rfl) (by kernel_rfl) (by kernel_rfl) (by kernel_rfl)
  have h10 := @run_callFunc_extern Tryz.prog 153 _ ReflectliteType.typeOf Tryz.func153 (by kernel_rfl) (by kernel_rfl) (by kernel_rfl) (by kernel_rfl)
  have h35 := @run_callFunc_extern Tryz.prog 203 _ (ReflectliteType.relation "AssignableTo" ReflectliteType.assignableTo) Tryz.func203 (by kernel_rfl) (by kernel_rfl) (by kernel_rfl) (by kernel_rfl)
  have h11 := @run_callFunc_extern Tryz.prog 154 _ (ReflectliteValue.method (ReflectliteValue.valueError "reflectlite.Value.Elem" 0) ReflectliteValue.elem) Tryz.func154 (by kernel_rfl) (by kernel_rfl) (by kernel_rfl) (by kernel_rfl)
  have h12 := @run_callFunc_extern Tryz.prog 155 _ ReflectliteValue.set Tryz.func155 (by kernel_rfl) (by kernel_rfl) (by kernel_rfl) (by kernel_rfl)
  have tO := rl_typeOf25
  have mA := rl_methodAssignableTo
  have a25 := rl_assignable25
  have v25 := rl_valueOf25
  have f6 := rl_valueOf27
  have f7 := rl_type27
  have mK := rl_methodKind
  have mE := rl_methodElem
  have mI := rl_methodImplements
  have k27 := rl_kind27
  have k25 := rl_kind25
  have e27 := rl_elem27
  have i25 := rl_implements25
  have n8 := rl_isNil27 ⟨w.heap.size, 0, none⟩ t ((w.alloc (.cells #[.pointer (some t)] 159)).alloc (.cells #[.pointer (some ⟨1, 159, none⟩), .pointer (some ⟨w.heap.size, 0, none⟩), .int .u64 150] 200)) (by simp)
  have hlt : 0 < w.heap.size := by
    rcases Nat.eq_zero_or_pos w.heap.size with h0 | h
    · simp [World.cell?, h0] at hg
    · exact h
  have hg2 : ((w.alloc (.cells #[.pointer (some t)] 159)).alloc (.cells #[.pointer (some ⟨1, 159, none⟩), .pointer (some ⟨w.heap.size, 0, none⟩), .int .u64 150] 200)).cell? ⟨0, 0, none⟩ = some (.iface 228 (.agg #[.pointer (some ⟨1, 112, none⟩)])) := by
    rw [World.cell?_alloc_lt _ _ ⟨0, 0, none⟩ (by simp), World.cell?_alloc_lt _ _ ⟨0, 0, none⟩ hlt]; exact hg
  have htl : t.block < w.heap.size := by
    rcases Nat.lt_or_ge t.block w.heap.size with h | h
    · exact h
    · simp [World.cell?, Array.getElem?_eq_none h] at ht0
  have el := rl_elemV27 ⟨w.heap.size, 0, none⟩ t (((w.alloc (.cells #[.pointer (some t)] 159)).alloc (.cells #[.pointer (some ⟨1, 159, none⟩), .pointer (some ⟨w.heap.size, 0, none⟩), .int .u64 150] 200)).alloc (.cells #[.pointer (some ⟨1, 159, none⟩), .pointer (some ⟨w.heap.size, 0, none⟩), .int .u64 150] 200)) (by rw [World.cell?_alloc_lt _ _ ⟨w.heap.size, 0, none⟩ (by simp; omega)]; simp)
  have st := rl_set25 t ⟨w.heap.size + 1 + 1 + 1, 0, none⟩ e old ((((w.alloc (.cells #[.pointer (some t)] 159)).alloc (.cells #[.pointer (some ⟨1, 159, none⟩), .pointer (some ⟨w.heap.size, 0, none⟩), .int .u64 150] 200)).alloc (.cells #[.pointer (some ⟨1, 159, none⟩), .pointer (some ⟨w.heap.size, 0, none⟩), .int .u64 150] 200)).alloc (.cells #[.pointer (some e)] 157))
    (by rw [World.cell?_alloc_at _ _ _ _ (by simp)]; rfl)
    (by rw [World.cell?_alloc_lt _ _ t (by simp; omega), World.cell?_alloc_lt _ _ t (by simp; omega), World.cell?_alloc_lt _ _ t (by simp; omega), World.cell?_alloc_lt _ _ t htl]; exact ht0)
    (by rw [World.frozen?_alloc_old _ _ t (by simp; omega), World.frozen?_alloc_old _ _ t (by simp; omega), World.frozen?_alloc_old _ _ t (by simp; omega), World.frozen?_alloc_old _ _ t (Nat.ne_of_lt htl)]; exact hf0)
  go_enter Tryz.func105, Tryz.ntmps105
  go_wp2
  refine wp_loop_rounds 1 ?_
  rw [rounds_succ]
  go_wp2
  go_ret
  exact ⟨rfl, rfl⟩

/-! What errors.As comes to, on abstract heaps. -/
section
open Go.AM
variable {h : AHeap}
theorem enters_as : enters Tryz.prog 105 := ⟨_, Tryz.func105, by kernel_rfl, by kernel_rfl, by decide⟩
theorem two_inv {ι : PMap} {a b : Value} {args : Array Value} (hv : VRA ι #[a, b] args) : ∃ a' b', args = #[a', b'] ∧ VR ι a a' ∧ VR ι b b' := by
  have h1 := VRA_iff.1 hv
  obtain ⟨a', r, e1, v1, h2⟩ := VRL.cons_inv (v := a) (c := [b]) h1
  obtain ⟨b', r', e2, v2, h3⟩ := h2.cons_inv
  have h4 := h3.nil_inv
  exact ⟨a', b', by apply Array.ext'; rw [e1, e2, h4], v1, v2⟩
theorem iface_inv {ι : PMap} {t : TypeId} {v u : Value} (hv : VR ι (.iface t v) u) : ∃ v', u = .iface t v' ∧ VR ι v v' := by cases hv; exact ⟨_, rfl, ‹_›⟩
theorem asNil_ok {t : Value} : Does Tryz.prog 105 #[.nilIface, t] h (fun u h' => u = .bool false ∧ h' = h) := by
  refine ⟨_, _, ⟨enters_as, Nat.le_refl _, fun ι w args' hr hv _ => ?_⟩, rfl, rfl⟩
  obtain ⟨a', b', rfl, v1, v2⟩ := two_inv hv
  cases v1
  refine (as_nil b' w).mono ?_
  rintro e w' ⟨rfl, rfl⟩
  exact ⟨ι, _, rfl, .refl hr, .bool _⟩
theorem asHit_ok {e r : Nat} (hg : h.get r = .cells [.pointer none] .rw) (he : e < h.next) : Does Tryz.prog 105 #[.iface 157 (.pointer (some ⟨e, 0, none⟩)), .iface 159 (.pointer (some ⟨r, 0, none⟩))] h
    (fun u h' => u = .bool true ∧ h' = h.set r (.cells [.pointer (some ⟨e, 0, none⟩)] .rw)) := by
  refine ⟨_, _, ⟨enters_as, by simp, fun ι w args' hr hv _ => ?_⟩, rfl, rfl⟩
  obtain ⟨a', b', rfl, v1, v2⟩ := two_inv hv
  obtain ⟨x, rfl, w1⟩ := iface_inv v1
  obtain ⟨y, rfl, w2⟩ := iface_inv v2
  obtain ⟨pe, ie, _, rfl⟩ := w1.ptr_inv
  obtain ⟨pr, ir, _, rfl⟩ := w2.ptr_inv
  have ho := hr.obj r pr ir
  rw [hg] at ho
  obtain ⟨hb0, cs, et, hw, hcs⟩ := ho
  obtain ⟨u, us, hcl, hu, hus⟩ := VRL.cons_inv (v := .pointer none) (c := []) hcs
  have hus := hus.nil_inv
  cases hu
  have hcs0 : cs = #[.pointer none] := by apply Array.ext'; rw [hcl, hus]
  subst hcs0
  simp only [hb0, Nat.add_zero]
  have hc0 : w.cell? ⟨pr.b, 0, none⟩ = some (.pointer none) := by simp [World.cell?, hw]
  have hf0 : w.frozen? ⟨pr.b, 0, none⟩ = false := by simp [World.frozen?, hw]
  have hlay := (hr.lay _ (List.mem_cons_self ..)).1
  refine (as_hit ⟨pe.b, pe.base, none⟩ ⟨pr.b, 0, none⟩ (.pointer none) w hlay hc0 hf0).mono ?_
  rintro ev w' ⟨rfl, rfl⟩
  have own : (h.get r).own = true := by rw [hg]; rfl
  refine ⟨ι, _, rfl, ?_, .bool _⟩
  have s4 := ((((Step.refl hr).aside (.cells #[.pointer (some ⟨pr.b, 0, none⟩)] 159)).aside (.cells #[.pointer (some ⟨1, 159, none⟩), .pointer (some ⟨w.heap.size, 0, none⟩), .int .u64 150] 200)).aside (.cells #[.pointer (some ⟨1, 159, none⟩), .pointer (some ⟨w.heap.size, 0, none⟩), .int .u64 150] 200)).aside (.cells #[.pointer (some ⟨pe.b, pe.base, none⟩)] 157)
  refine s4.trans (Put.step s4.hr ir own (Put.setCell _ _ _ _) ?_)
  have o4 := s4.hr.obj r pr ir
  rw [hg] at o4
  obtain ⟨_, cs4, et4, hw4, hcs4⟩ := o4
  refine ⟨hb0, _, et4, heap_setCell hw4, ?_⟩
  obtain ⟨u4, us4, hcl4, hu4, hus4⟩ := VRL.cons_inv (v := .pointer none) (c := []) hcs4
  have hus4 := hus4.nil_inv
  have hc4 : cs4 = #[u4] := by apply Array.ext'; rw [hcl4, hus4]
  subst hc4
  exact .cons (by have := VR.ptr (ι := ι) (id := e) (pl := pe) 0 ie; simpa using this) (.nil _)
@[go_sem] theorem aop_makeInterface {P : Program} {ρ : Operand → Value} {h : AHeap} {t : TypeId} {x : Operand} : aop P ρ h (.makeInterface t x) = match P.underlying t with | some (.interface _) => none | some _ => some (.iface t (ρ x), h) | none => none := rfl
@[go_sem] theorem acall_makeInterface {ρ : Operand → Value} {t : TypeId} {x : Operand} : acall? ρ (.makeInterface t x) = none := rfl
/-- An error, as may answers it. -/
def errV (h : AHeap) (e : Int) (v : Value) : Prop := (e = 0 ∧ v = .nilIface) ∨ (e ≠ 0 ∧ ∃ id n, v = .iface 157 (.pointer (some ⟨id, 0, none⟩)) ∧ h.get id = .cells [.int .i64 n, .int .i64 e] .rw)
theorem errV.quiet {h' : AHeap} {e : Int} {v : Value} (he : errV h e v) (q : h.quiet h') : errV h' e v := by
  rcases he with he | ⟨h0, id, n, hv, hg⟩
  · exact .inl he
  · exact .inr ⟨h0, id, n, hv, (q.2 _ (AHeap.lt_of_alive h (by rw [hg]; simp))).trans hg⟩
theorem number_ok {e : Int} {v : Value} (he : errV h e v) : Does Tryz.prog 54 #[v] h (fun u h' => u = .int .i64 e ∧ h.quiet h') := by
  refine spec_go mixed Tryz.func54 rfl Tryz.results54 (n := Tryz.f54.ntmps) (by kernel_rfl) (by simp) ?_
  simp only [go_sem, simprocAttr]
  rcases he with ⟨rfl, rfl⟩ | ⟨h0, id, n, rfl, hg⟩
  · refine cl_spec asNil_ok (fun _ _ _ hc => absurd hc (by decide +kernel)) ?_
    rintro u k ⟨rfl, rfl⟩
    simp only [go_sem, simprocAttr]
  · have hl := AHeap.lt_of_alive h (i := id) (by rw [hg]; simp)
    refine cl_spec (asHit_ok (by simp only [go_sem, simprocAttr]) (by simp; omega)) (fun _ _ _ hc => absurd hc (by decide +kernel)) ?_
    rintro u k ⟨rfl, rfl⟩
    have g1 : ((h.push (.cells [.pointer none] .rw)).set h.next (.cells [.pointer (some ⟨id, 0, none⟩)] .rw)).get h.next = .cells [.pointer (some ⟨id, 0, none⟩)] .rw := AHeap.get_set_self _ _ (by simp)
    have g2 : ((h.push (.cells [.pointer none] .rw)).set h.next (.cells [.pointer (some ⟨id, 0, none⟩)] .rw)).get id = .cells [.int .i64 n, .int .i64 e] .rw := by
      rw [AHeap.get_set_ne _ _ (by omega), AHeap.get_push_lt _ _ hl]; exact hg
    have q : h.quiet ((h.push (.cells [.pointer none] .rw)).set h.next (.cells [.pointer (some ⟨id, 0, none⟩)] .rw)) := .push_set _ _ _
    generalize (h.push (.cells [.pointer none] .rw)).set h.next (.cells [.pointer (some ⟨id, 0, none⟩)] .rw) = k at g1 g2 q
    simp only [go_sem, simprocAttr, g1, g2]
    exact q
end
end Go.Proofs.YtedpfdflolkpeaaGreatDoor
