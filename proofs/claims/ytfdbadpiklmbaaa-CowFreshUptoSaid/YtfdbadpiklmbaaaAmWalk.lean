/- AM: the rules of a walk, as equations for simp. -/
import Derived.Test.YtfdbadpiklmbaaaAmEnv
import Derived.Attr
set_option linter.unusedSimpArgs false
set_option linter.unusedVariables false
set_option linter.unnecessarySimpa false
set_option maxRecDepth 100000
namespace Go.AM

attribute [go_sem] go_skip go_rgf go_region go_seq go_cond go_block go_exit go_ret nx_nil nx_seq nx_block nx_jo ex_seq ex_block ex_jo rt_nil rt_seq rt_block rt_jo ro_nil ro_cons ro_guard stp_some stc_none stc_call gd_true gd_false cnd_true cnd_false put_some put_none ev_tmp ev_const ev_func set_self set_ne env0_nil env0_one env0_two env0_three env0_four env0_five env0_six env0_seven

noncomputable def inf (P : Program) (t : TypeId) : TypeInfo := (P.info? t).getD default

section
variable {P : Program} {ρ : Operand → Value} {h : AHeap}

@[go_sem] theorem aop_move {x : Operand} : aop P ρ h (.move x) = some (ρ x, h) := rfl
@[go_sem] theorem aop_assign {x : Operand} : aop P ρ h (.assign x) = some (ρ x, h) := rfl
@[go_sem] theorem aop_pick {c a b : Operand} : aop P ρ h (.pick c a b) = match ρ c with | .bool t => some (if t then ρ a else ρ b, h) | _ => none := rfl
@[go_sem] theorem aop_alloc {t : TypeId} : aop P ρ h (.alloc t) = match zeroT P t with | some z => if plainV 3 z = true then some (.pointer (some ⟨h.next, 0, none⟩), h.push (.cells z.cells.toList .rw)) else none | none => none := rfl
@[go_sem] theorem aop_box {t : TypeId} {x : Operand} : aop P ρ h (.box t x) = some (.pointer (some ⟨h.next, 0, none⟩), h.push (.cells (ρ x).cells.toList .rw)) := rfl
@[go_sem] theorem aop_build {t : TypeId} {ps : Array (Nat × Operand)} : aop P ρ h (.build t ps) = (abuild P t (ps.toList.map fun p => (p.1, ρ p.2))).map (·, h) := rfl
@[go_sem] theorem aop_buildSlice {t : TypeId} {n : Nat} {ps : Array (Nat × Operand)} : aop P ρ h (.buildSlice t n ps) = abuildSlice P h t n (ps.toList.map fun p => (p.1, ρ p.2)) := rfl
@[go_sem] theorem aop_load {t : TypeId} {x : Operand} : aop P ρ h (.load t x) = match ρ x with | .pointer (some ⟨id, off, none⟩) => (aload P t h id off).map (·, h) | _ => none := rfl
@[go_sem] theorem aop_store {t : TypeId} {x v : Operand} : aop P ρ h (.store t x v) = match ρ x with | .pointer (some ⟨id, off, none⟩) => (astore P t (ρ v) h id off).map (undef, ·) | _ => none := rfl
@[go_sem] theorem aop_nilCheck {x : Operand} : aop P ρ h (.nilCheck x) = match ρ x with | .pointer (some a) => some (.pointer (some a), h) | _ => none := rfl
@[go_sem] theorem aop_binOp {op : BinOp} {t : TypeId} {x y : Operand} {u : TypeId} : aop P ρ h (.binOp op t x y u) = (abin P h op t (ρ x) (ρ y)).map (·, h) := rfl
@[go_sem] theorem aop_unOp {op : UnOp} {t : TypeId} {x : Operand} : aop P ρ h (.unOp op t x) = (aun op (ρ x)).map (·, h) := rfl
@[go_sem] theorem aop_convert {s d : TypeId} {x : Operand} : aop P ρ h (.convert s d x) = aconv P h s d (ρ x) := rfl
@[go_sem] theorem aop_makeFunc {f : FuncId} {a b : Array Operand} : aop P ρ h (.makeFunc (.func f) a b) = some (.func (.func f) (a.map ρ) (b.map ρ), h) := rfl
@[go_sem] theorem aop_makeMap {t : TypeId} : aop P ρ h (.makeMap t none) = if (P.underlying t).isSome = true then some (.map (some h.next), h.push (.map [] 0)) else none := rfl
@[go_sem] theorem aop_makeSlice {t : TypeId} {l c : Operand} : aop P ρ h (.makeSlice t l c) = amake P h t (ρ l) (ρ c) := rfl
@[go_sem] theorem aop_slice {t : TypeId} {x : Operand} {lo hi mx : Option Operand} : aop P ρ h (.slice t x lo hi mx) = (aslice P t (ρ x) (lo.map fun v => intOf? (ρ v)) (hi.map fun v => intOf? (ρ v)) (mx.map fun v => intOf? (ρ v))).map (·, h) := rfl
@[go_sem] theorem aop_fieldAddr {s : TypeId} {x : Operand} {f : Nat} : aop P ρ h (.fieldAddr s x f) = (afieldAddr P s (ρ x) f).map (·, h) := rfl
@[go_sem] theorem aop_field {s : TypeId} {x : Operand} {f : Nat} : aop P ρ h (.field s x f) = (afield P s (ρ x) f).map (·, h) := rfl
@[go_sem] theorem aop_indexAddr {t : TypeId} {x i : Operand} : aop P ρ h (.indexAddr t x i) = (aindexAddr P t (ρ x) (ρ i)).map (·, h) := rfl
@[go_sem] theorem aop_index {t : TypeId} {x i : Operand} : aop P ρ h (.index t x i) = (aindex P t (ρ x) (ρ i)).map (·, h) := rfl
@[go_sem] theorem aop_lookup {t : TypeId} {m i : Operand} {ok : Bool} : aop P ρ h (.lookup t m i ok) = (alookupK P h t (ρ m) (ρ i) ok).map (·, h) := rfl
@[go_sem] theorem alookupK_int {t : TypeId} {m : Value} {k : IntKind} {n : Int} {ok : Bool} : alookupK P h t m (.int k n) ok = alookup P h t m (.int k n) ok := rfl
@[go_sem] theorem alookupK_ptr {t : TypeId} {m : Value} {a : Option Addr} {ok : Bool} : alookupK P h t m (.pointer a) ok = alookupP P h t m a ok := rfl
@[go_sem] theorem amapUpdateK_int {t : TypeId} {m v : Value} {k : IntKind} {n : Int} : amapUpdateK P h t m (.int k n) v = amapUpdate P h t m (.int k n) v := rfl
@[go_sem] theorem amapUpdateK_ptr {t : TypeId} {m v : Value} {a : Option Addr} : amapUpdateK P h t m (.pointer a) v = amapUpdateP P h t m a v := rfl
@[go_sem] theorem aop_mapUpdate {t : TypeId} {m k v : Operand} : aop P ρ h (.mapUpdate t m k v) = (amapUpdateK P h t (ρ m) (ρ k) (ρ v)).map (undef, ·) := rfl
@[go_sem] theorem aop_extract {x : Operand} {i : Nat} : aop P ρ h (.extract x i) = match ρ x with | .tuple vs => (vs[i]?).map (·, h) | _ => none := rfl
@[go_sem] theorem aop_builtin {b : Builtin} {as : Array Operand} {ats : Array TypeId} : aop P ρ h (.call { callee := .builtin b, args := as, argTypes := ats }) = abuiltin P h b ats (as.map ρ) := rfl

@[go_sem] theorem acall_builtin {b : Builtin} {as : Array Operand} {ats : Array TypeId} : acall? ρ (.call { callee := .builtin b, args := as, argTypes := ats }) = none := rfl
@[go_sem] theorem acall_value {f : Operand} {as : Array Operand} {ats : Array TypeId} : acall? ρ (.call { callee := .value f, args := as, argTypes := ats }) = match ρ f with | .func (.func g) first captured => if g < 18446744073709551616 then some (some (g, first ++ as.map ρ ++ captured)) else some none | .func (.yield l) first _ => some (some (yid l, first ++ as.map ρ)) | _ => some none := rfl
@[go_sem] theorem acall_move {x : Operand} : acall? ρ (.move x) = none := rfl
@[go_sem] theorem acall_assign {x : Operand} : acall? ρ (.assign x) = none := rfl
@[go_sem] theorem acall_pick {c a b : Operand} : acall? ρ (.pick c a b) = none := rfl
@[go_sem] theorem acall_alloc {t : TypeId} : acall? ρ (.alloc t) = none := rfl
@[go_sem] theorem acall_box {t : TypeId} {x : Operand} : acall? ρ (.box t x) = none := rfl
@[go_sem] theorem acall_build {t : TypeId} {ps : Array (Nat × Operand)} : acall? ρ (.build t ps) = none := rfl
@[go_sem] theorem acall_buildSlice {t : TypeId} {n : Nat} {ps : Array (Nat × Operand)} : acall? ρ (.buildSlice t n ps) = none := rfl
@[go_sem] theorem acall_load {t : TypeId} {x : Operand} : acall? ρ (.load t x) = none := rfl
@[go_sem] theorem acall_store {t : TypeId} {x v : Operand} : acall? ρ (.store t x v) = none := rfl
@[go_sem] theorem acall_nilCheck {x : Operand} : acall? ρ (.nilCheck x) = none := rfl
@[go_sem] theorem acall_binOp {op : BinOp} {t : TypeId} {x y : Operand} {u : TypeId} : acall? ρ (.binOp op t x y u) = none := rfl
@[go_sem] theorem acall_unOp {op : UnOp} {t : TypeId} {x : Operand} : acall? ρ (.unOp op t x) = none := rfl
@[go_sem] theorem acall_convert {s d : TypeId} {x : Operand} : acall? ρ (.convert s d x) = none := rfl
@[go_sem] theorem acall_makeFunc {f : Fn} {a b : Array Operand} : acall? ρ (.makeFunc f a b) = none := rfl
@[go_sem] theorem acall_makeMap {t : TypeId} {r : Option Operand} : acall? ρ (.makeMap t r) = none := rfl
@[go_sem] theorem acall_makeSlice {t : TypeId} {l c : Operand} : acall? ρ (.makeSlice t l c) = none := rfl
@[go_sem] theorem acall_slice {t : TypeId} {x : Operand} {lo hi mx : Option Operand} : acall? ρ (.slice t x lo hi mx) = none := rfl
@[go_sem] theorem acall_fieldAddr {s : TypeId} {x : Operand} {f : Nat} : acall? ρ (.fieldAddr s x f) = none := rfl
@[go_sem] theorem acall_field {s : TypeId} {x : Operand} {f : Nat} : acall? ρ (.field s x f) = none := rfl
@[go_sem] theorem acall_indexAddr {t : TypeId} {x i : Operand} : acall? ρ (.indexAddr t x i) = none := rfl
@[go_sem] theorem acall_index {t : TypeId} {x i : Operand} : acall? ρ (.index t x i) = none := rfl
@[go_sem] theorem acall_lookup {t : TypeId} {m i : Operand} {ok : Bool} : acall? ρ (.lookup t m i ok) = none := rfl
@[go_sem] theorem acall_mapUpdate {t : TypeId} {m k v : Operand} : acall? ρ (.mapUpdate t m k v) = none := rfl
@[go_sem] theorem acall_extract {x : Operand} {i : Nat} : acall? ρ (.extract x i) = none := rfl
end

/-! What stands behind new objects. -/
section
variable {h : AHeap} {a b c d e o : AObj}
theorem get_push_eq {i : Nat} (hi : i = h.next) : (h.push o).get i = o := by subst hi; exact AHeap.get_push_self h o
theorem set_push_eq {i : Nat} (hi : i = h.next) : (h.push a).set i o = h.push o := by subst hi; simp [AHeap.set, AHeap.push, AHeap.next, List.set_append]
theorem set_push_lt {i : Nat} (hi : i < h.next) : (h.push a).set i o = (h.set i o).push a := by
  simp only [AHeap.next] at hi
  simp [AHeap.set, AHeap.push, List.set_append, hi]
@[go_sem] theorem set_push1_0 : (h.push a).set (h.next) o = (h.push o) := by rw [set_push_eq (by simp)]
@[go_sem] theorem get_push2_0 : ((h.push a).push b).get (h.next) = a := by rw [AHeap.get_push_lt _ _ (by simp only [AHeap.next_push]; omega)]; exact get_push_eq (by simp)
@[go_sem] theorem set_push2_0 : ((h.push a).push b).set (h.next) o = ((h.push o).push b) := by rw [set_push_lt (by simp only [AHeap.next_push]; omega)]; rw [set_push_eq (by simp)]
@[go_sem] theorem get_push2_1 : ((h.push a).push b).get (h.next + 1) = b := by exact get_push_eq (by simp)
@[go_sem] theorem set_push2_1 : ((h.push a).push b).set (h.next + 1) o = ((h.push a).push o) := by rw [set_push_eq (by simp)]
@[go_sem] theorem get_push3_0 : (((h.push a).push b).push c).get (h.next) = a := by rw [AHeap.get_push_lt _ _ (by simp only [AHeap.next_push]; omega)]; rw [AHeap.get_push_lt _ _ (by simp only [AHeap.next_push]; omega)]; exact get_push_eq (by simp)
@[go_sem] theorem set_push3_0 : (((h.push a).push b).push c).set (h.next) o = (((h.push o).push b).push c) := by rw [set_push_lt (by simp only [AHeap.next_push]; omega)]; rw [set_push_lt (by simp only [AHeap.next_push]; omega)]; rw [set_push_eq (by simp)]
@[go_sem] theorem get_push3_1 : (((h.push a).push b).push c).get (h.next + 1) = b := by rw [AHeap.get_push_lt _ _ (by simp only [AHeap.next_push]; omega)]; exact get_push_eq (by simp)
@[go_sem] theorem set_push3_1 : (((h.push a).push b).push c).set (h.next + 1) o = (((h.push a).push o).push c) := by rw [set_push_lt (by simp only [AHeap.next_push]; omega)]; rw [set_push_eq (by simp)]
@[go_sem] theorem get_push3_2 : (((h.push a).push b).push c).get (h.next + 1 + 1) = c := by exact get_push_eq (by simp)
@[go_sem] theorem set_push3_2 : (((h.push a).push b).push c).set (h.next + 1 + 1) o = (((h.push a).push b).push o) := by rw [set_push_eq (by simp)]
@[go_sem] theorem get_push4_0 : ((((h.push a).push b).push c).push d).get (h.next) = a := by rw [AHeap.get_push_lt _ _ (by simp only [AHeap.next_push]; omega)]; rw [AHeap.get_push_lt _ _ (by simp only [AHeap.next_push]; omega)]; rw [AHeap.get_push_lt _ _ (by simp only [AHeap.next_push]; omega)]; exact get_push_eq (by simp)
@[go_sem] theorem set_push4_0 : ((((h.push a).push b).push c).push d).set (h.next) o = ((((h.push o).push b).push c).push d) := by rw [set_push_lt (by simp only [AHeap.next_push]; omega)]; rw [set_push_lt (by simp only [AHeap.next_push]; omega)]; rw [set_push_lt (by simp only [AHeap.next_push]; omega)]; rw [set_push_eq (by simp)]
@[go_sem] theorem get_push4_1 : ((((h.push a).push b).push c).push d).get (h.next + 1) = b := by rw [AHeap.get_push_lt _ _ (by simp only [AHeap.next_push]; omega)]; rw [AHeap.get_push_lt _ _ (by simp only [AHeap.next_push]; omega)]; exact get_push_eq (by simp)
@[go_sem] theorem set_push4_1 : ((((h.push a).push b).push c).push d).set (h.next + 1) o = ((((h.push a).push o).push c).push d) := by rw [set_push_lt (by simp only [AHeap.next_push]; omega)]; rw [set_push_lt (by simp only [AHeap.next_push]; omega)]; rw [set_push_eq (by simp)]
@[go_sem] theorem get_push4_2 : ((((h.push a).push b).push c).push d).get (h.next + 1 + 1) = c := by rw [AHeap.get_push_lt _ _ (by simp only [AHeap.next_push]; omega)]; exact get_push_eq (by simp)
@[go_sem] theorem set_push4_2 : ((((h.push a).push b).push c).push d).set (h.next + 1 + 1) o = ((((h.push a).push b).push o).push d) := by rw [set_push_lt (by simp only [AHeap.next_push]; omega)]; rw [set_push_eq (by simp)]
@[go_sem] theorem get_push4_3 : ((((h.push a).push b).push c).push d).get (h.next + 1 + 1 + 1) = d := by exact get_push_eq (by simp)
@[go_sem] theorem set_push4_3 : ((((h.push a).push b).push c).push d).set (h.next + 1 + 1 + 1) o = ((((h.push a).push b).push c).push o) := by rw [set_push_eq (by simp)]
@[go_sem] theorem get_push5_0 : (((((h.push a).push b).push c).push d).push e).get (h.next) = a := by rw [AHeap.get_push_lt _ _ (by simp only [AHeap.next_push]; omega)]; rw [AHeap.get_push_lt _ _ (by simp only [AHeap.next_push]; omega)]; rw [AHeap.get_push_lt _ _ (by simp only [AHeap.next_push]; omega)]; rw [AHeap.get_push_lt _ _ (by simp only [AHeap.next_push]; omega)]; exact get_push_eq (by simp)
@[go_sem] theorem set_push5_0 : (((((h.push a).push b).push c).push d).push e).set (h.next) o = (((((h.push o).push b).push c).push d).push e) := by rw [set_push_lt (by simp only [AHeap.next_push]; omega)]; rw [set_push_lt (by simp only [AHeap.next_push]; omega)]; rw [set_push_lt (by simp only [AHeap.next_push]; omega)]; rw [set_push_lt (by simp only [AHeap.next_push]; omega)]; rw [set_push_eq (by simp)]
@[go_sem] theorem get_push5_1 : (((((h.push a).push b).push c).push d).push e).get (h.next + 1) = b := by rw [AHeap.get_push_lt _ _ (by simp only [AHeap.next_push]; omega)]; rw [AHeap.get_push_lt _ _ (by simp only [AHeap.next_push]; omega)]; rw [AHeap.get_push_lt _ _ (by simp only [AHeap.next_push]; omega)]; exact get_push_eq (by simp)
@[go_sem] theorem set_push5_1 : (((((h.push a).push b).push c).push d).push e).set (h.next + 1) o = (((((h.push a).push o).push c).push d).push e) := by rw [set_push_lt (by simp only [AHeap.next_push]; omega)]; rw [set_push_lt (by simp only [AHeap.next_push]; omega)]; rw [set_push_lt (by simp only [AHeap.next_push]; omega)]; rw [set_push_eq (by simp)]
@[go_sem] theorem get_push5_2 : (((((h.push a).push b).push c).push d).push e).get (h.next + 1 + 1) = c := by rw [AHeap.get_push_lt _ _ (by simp only [AHeap.next_push]; omega)]; rw [AHeap.get_push_lt _ _ (by simp only [AHeap.next_push]; omega)]; exact get_push_eq (by simp)
@[go_sem] theorem set_push5_2 : (((((h.push a).push b).push c).push d).push e).set (h.next + 1 + 1) o = (((((h.push a).push b).push o).push d).push e) := by rw [set_push_lt (by simp only [AHeap.next_push]; omega)]; rw [set_push_lt (by simp only [AHeap.next_push]; omega)]; rw [set_push_eq (by simp)]
@[go_sem] theorem get_push5_3 : (((((h.push a).push b).push c).push d).push e).get (h.next + 1 + 1 + 1) = d := by rw [AHeap.get_push_lt _ _ (by simp only [AHeap.next_push]; omega)]; exact get_push_eq (by simp)
@[go_sem] theorem set_push5_3 : (((((h.push a).push b).push c).push d).push e).set (h.next + 1 + 1 + 1) o = (((((h.push a).push b).push c).push o).push e) := by rw [set_push_lt (by simp only [AHeap.next_push]; omega)]; rw [set_push_eq (by simp)]
@[go_sem] theorem get_push5_4 : (((((h.push a).push b).push c).push d).push e).get (h.next + 1 + 1 + 1 + 1) = e := by exact get_push_eq (by simp)
@[go_sem] theorem set_push5_4 : (((((h.push a).push b).push c).push d).push e).set (h.next + 1 + 1 + 1 + 1) o = (((((h.push a).push b).push c).push d).push o) := by rw [set_push_eq (by simp)]
@[go_sem] theorem lt_up {i j : Nat} (hl : i < j) : (i < j + 1) = True := by simp; omega
end

/-! What the typed operations do, the types' facts taken out. -/

def ldc (ag : Option Bool) (n off : Nat) : AObj → Option Value
  | .cells c _ =>
    match ag with
    | some true => if off + n ≤ c.length then some (.agg ((c.drop off).take n).toArray) else none
    | some false => c[off]?
    | none => none
  | _ => none

def sto (ok : Bool) (n : Nat) (v : Value) (h : AHeap) (id off : Nat) : AObj → Option AHeap
  | .cells c md => if md ≠ .ro ∧ ok = true ∧ v.cells.size = n ∧ off + v.cells.size ≤ c.length ∧ v.cells.toList.all one = true then some (h.set id (.cells (putCells c off v.cells.toList) md)) else none
  | _ => none

section
variable {P : Program} {h : AHeap}
@[go_sem] theorem aload_eq {t : TypeId} {id off : Nat} : aload P t h id off = ldc (aggT P t) (P.cellsOf t) off (h.get id) := by
  unfold aload ldc
  cases h.get id <;> rfl
@[go_sem] theorem ldc_one {n off : Nat} {c : List Value} {md : Md} : ldc (some false) n off (.cells c md) = c[off]? := rfl
@[go_sem] theorem ldc_agg {n off : Nat} {c : List Value} {md : Md} : ldc (some true) n off (.cells c md) = if off + n ≤ c.length then some (.agg ((c.drop off).take n).toArray) else none := rfl
@[go_sem] theorem astore_eq {t : TypeId} {v : Value} {id off : Nat} : astore P t v h id off = sto (P.info? t).isSome (P.cellsOf t) v h id off (h.get id) := by
  unfold astore sto
  cases h.get id <;> rfl
@[go_sem] theorem sto_cells {ok : Bool} {n : Nat} {v : Value} {id off : Nat} {c : List Value} {md : Md} : sto ok n v h id off (.cells c md) =
    if md ≠ .ro ∧ ok = true ∧ v.cells.size = n ∧ off + v.cells.size ≤ c.length ∧ v.cells.toList.all one = true then some (h.set id (.cells (putCells c off v.cells.toList) md)) else none := rfl
end

@[go_sem] theorem cells_bool {b : Bool} : (Value.bool b).cells = #[.bool b] := rfl
@[go_sem] theorem cells_int {k : IntKind} {n : Int} : (Value.int k n).cells = #[.int k n] := rfl
@[go_sem] theorem cells_string {s : ByteArray} : (Value.string s).cells = #[.string s] := rfl
@[go_sem] theorem cells_pointer {a : Option Addr} : (Value.pointer a).cells = #[.pointer a] := rfl
@[go_sem] theorem cells_slice {a : Option Addr} {n c : Nat} : (Value.slice a n c).cells = #[.slice a n c] := rfl
@[go_sem] theorem cells_map {a : Option Nat} : (Value.map a).cells = #[.map a] := rfl
@[go_sem] theorem cells_func {f : Fn} {a b : Array Value} : (Value.func f a b).cells = #[.func f a b] := rfl
@[go_sem] theorem cells_nilFunc : (Value.nilFunc).cells = #[.nilFunc] := rfl
@[go_sem] theorem cells_agg {c : Array Value} : (Value.agg c).cells = c := rfl
theorem cells_one {v : Value} (h : one v = true) : v.cells = #[v] := by cases v <;> first | rfl | cases h
@[go_sem] theorem one_bool {b : Bool} : one (.bool b) = true := rfl
@[go_sem] theorem one_int {k : IntKind} {n : Int} : one (.int k n) = true := rfl
@[go_sem] theorem one_string {s : ByteArray} : one (.string s) = true := rfl
@[go_sem] theorem one_pointer {a : Option Addr} : one (.pointer a) = true := rfl
@[go_sem] theorem one_slice {a : Option Addr} {n c : Nat} : one (.slice a n c) = true := rfl
@[go_sem] theorem one_map {a : Option Nat} : one (.map a) = true := rfl
@[go_sem] theorem one_func {f : Fn} {a b : Array Value} : one (.func f a b) = true := rfl
@[go_sem] theorem one_nilFunc : one .nilFunc = true := rfl

def bnds (d : Int) : Option (Option Int) → Option Int
  | none => some d
  | some v => v
@[go_sem] theorem bnd_none {d : Int} : bnds d none = some d := rfl
@[go_sem] theorem bnd_some {d : Int} {v : Option Int} : bnds d (some v) = v := rfl

/-- 'x[lo:hi]' of a slice, elements of so many cells. -/
def slI (sz : Nat) (a : Option Addr) (len cap : Nat) : Option Int → Option Int → Option Value
  | some l, some h =>
    match a with
    | none => if 0 ≤ l ∧ l ≤ h ∧ h ≤ 0 ∧ cap = 0 then some (.slice none 0 0) else none
    | some ad =>
      match ad.spot with
      | none => if 0 ≤ l ∧ l ≤ h ∧ h ≤ cap then some (.slice (some (if cap = l.toNat then ad else ⟨ad.block, ad.off + l.toNat * sz, none⟩)) (h.toNat - l.toNat) (cap - l.toNat)) else none
      | some s => if s = sz ∧ 0 ≤ l ∧ l ≤ h ∧ h ≤ cap then some (.slice (some ⟨ad.block, ad.off + l.toNat * sz, some s⟩) (h.toNat - l.toNat) (cap - l.toNat)) else none
  | _, _ => none
@[go_sem] theorem slI_nil {sz len cap : Nat} {l h : Int} : slI sz none len cap (some l) (some h) = if 0 ≤ l ∧ l ≤ h ∧ h ≤ 0 ∧ cap = 0 then some (.slice none 0 0) else none := rfl
@[go_sem] theorem slI_x {sz len cap b o : Nat} {l h : Int} : slI sz (some ⟨b, o, none⟩) len cap (some l) (some h) = if 0 ≤ l ∧ l ≤ h ∧ h ≤ cap then some (.slice (some (if cap = l.toNat then ⟨b, o, none⟩ else ⟨b, o + l.toNat * sz, none⟩)) (h.toNat - l.toNat) (cap - l.toNat)) else none := rfl
@[go_sem] theorem slI_u {sz len cap b o s : Nat} {l h : Int} : slI sz (some ⟨b, o, some s⟩) len cap (some l) (some h) = if s = sz ∧ 0 ≤ l ∧ l ≤ h ∧ h ≤ cap then some (.slice (some ⟨b, o + l.toNat * sz, some s⟩) (h.toNat - l.toNat) (cap - l.toNat)) else none := rfl

/-- 'x[lo:hi]', by the type's description. -/
def slc (inf : TypeId → Option TypeInfo) (lo hi : Option (Option Int)) : Option TypeDesc → Value → Option Value
  | some .string, .string s =>
    match bnds 0 lo, bnds s.size hi with
    | some l, some h => if 0 ≤ l ∧ l ≤ h ∧ h ≤ s.size then some (.string (s.extract l.toNat h.toNat)) else none
    | _, _ => none
  | some (.slice e), .slice a len cap =>
    match inf e with
    | none => none
    | some i => slI i.size a len cap (bnds 0 lo) (bnds len hi)
  | _, _ => none
@[go_sem] theorem slc_slice {inf : TypeId → Option TypeInfo} {lo hi : Option (Option Int)} {e : TypeId} {a : Option Addr} {len cap : Nat} : slc inf lo hi (some (.slice e)) (.slice a len cap) = (inf e).elim none fun i => slI i.size a len cap (bnds 0 lo) (bnds len hi) := by
  show (match inf e with | none => none | some i => slI i.size a len cap (bnds 0 lo) (bnds len hi)) = _
  cases inf e <;> rfl
@[go_sem] theorem slc_string {inf : TypeId → Option TypeInfo} {lo hi : Option (Option Int)} {s : ByteArray} : slc inf lo hi (some .string) (.string s) = match bnds 0 lo, bnds s.size hi with
    | some l, some h => if 0 ≤ l ∧ l ≤ h ∧ h ≤ s.size then some (.string (s.extract l.toNat h.toNat)) else none
    | _, _ => none := rfl
@[go_sem] theorem aslice_eq {P : Program} {t : TypeId} {x : Value} {lo hi : Option (Option Int)} : aslice P t x lo hi none = slc P.info? lo hi (P.underlying t) x := by
  unfold aslice slc bnds
  generalize P.underlying t = u
  rcases u with _ | u
  · rfl
  · cases u <;> cases x <;> first | rfl | skip
    case some.string.string s =>
      simp only
      rcases hi with _ | _ | h <;> rcases lo with _ | _ | l <;> simp
    case some.slice.slice e a len cap =>
      simp only
      cases P.info? e with
      | none => rfl
      | some i =>
        rcases a with _ | ⟨b, o, _ | s⟩ <;> rcases hi with _ | _ | h <;> rcases lo with _ | _ | l <;> rfl
attribute [go_sem] Option.elim_some Option.elim_none

attribute [go_sem] afieldAddr afield apart aindexAddr aindex aconv abuild places afill abuildSlice amake abuiltin alenB acapB aminmax aappendB acopy aclear adelete alen astr aun intOf? putCells fin resEL resE chkR
attribute [go_sem] AHeap.next_push AHeap.next_set AHeap.get_push_self AHeap.get_set_ne AHeap.get_set_self AHeap.get_push_lt

attribute [go_sem] Int.cast_ofNat_Int Int.natCast_nonneg Int.toNat_natCast Nat.mul_one Int.ofNat_lt Int.ofNat_le gt_iff_lt ge_iff_le or_self or_false false_or or_true true_or List.toList_toArray Nat.add_zero Nat.zero_add ne_eq not_false_eq_true not_true_eq_false if_true if_false and_true true_and and_self Option.map_some Option.map_none Option.bind_some Option.bind_none Option.isSome_some Option.getD_some Bool.false_eq_true decide_true decide_false Bool.not_true Bool.not_false Bool.and_true Bool.true_and Bool.and_false Bool.false_and Bool.not_not
  List.map_cons List.map_nil List.map_toArray List.getElem?_cons_zero List.getElem?_cons_succ List.getElem?_toArray List.size_toArray List.length_cons List.length_nil List.all_cons List.all_nil Bool.and_self List.set_cons_zero List.set_cons_succ List.drop_zero List.drop_succ_cons List.take_zero List.take_succ_cons List.take_nil beq_self_eq_true
  List.append_toArray List.nil_append List.append_nil List.cons_append reduceCtorEq


def yv : Option Value → Option Bool
  | some (.bool b) => some b
  | _ => none
@[go_sem] theorem yieldE_eq {ops : Array Oper} {ρ : Env} {j : Nat} : yieldE ops ρ j = yv (((ops[j]?).bind (·.dst)).map ρ) := rfl
@[go_sem] theorem yv_bool {b : Bool} : yv (some (.bool b)) = some b := rfl
@[go_sem] theorem yv_undef : yv (some undef) = none := rfl
/-! Comparing. -/
@[go_sem] theorem beq_tf : ((some true : Option Bool) == some false) = false := rfl
@[go_sem] theorem beq_ft : ((some false : Option Bool) == some true) = false := rfl
@[go_sem] theorem beq_ns {b : Bool} : ((none : Option Bool) == some b) = false := rfl
@[go_sem] theorem cast_neg {n : Nat} : ((n : Int) < 0) = False := by simp
@[go_sem] theorem beq_int {a b : Int} : (a == b) = decide (a = b) := by by_cases e : a = b <;> simp [e]
@[go_sem] theorem bne_int {a b : Int} : (a != b) = !decide (a = b) := by by_cases e : a = b <;> simp [e]
@[go_sem] theorem gt_int {a b : Int} : decide (a > b) = decide (b < a) := rfl
@[go_sem] theorem ge_int {a b : Int} : decide (a ≥ b) = decide (b ≤ a) := rfl

def andO (b r : Option Bool) : Option Bool := match b with | some true => r | some false => some false | none => none
@[go_sem] theorem andO_some {b c : Bool} : andO (some b) (some c) = some (b && c) := by cases b <;> rfl
@[go_sem] theorem andO_false {r : Option Bool} : andO (some false) r = some false := rfl

section
variable {P : Program} {h : AHeap}
def aeqS (P : Program) (h : AHeap) (d : Nat) (t : TypeId) : Option TypeDesc → Value → Value → Option Bool := fun u x y =>
  match u, x, y with
    | some .bool, .bool a, .bool b => some (a == b)
    | some (.int _), .int k a, .int k' b => if k = k' then some (a == b) else none
    | some .string, .string a, .string b => some (a == b)
    | some (.pointer _), .pointer none, .pointer b => some b.isNone
    | some (.pointer _), .pointer (some _), .pointer none => some false
    | some (.pointer e), .pointer (some a), .pointer (some b) =>
      if P.cellsOf e = 0 ∨ (P.info? e).isSome = false ∨ a.spot ≠ none ∨ b.spot ≠ none then none
      else if a.block = b.block then some (decide (a.off = b.off))
      else match h.get a.block, h.get b.block with
        | .cells _ .rw, .cells _ .rw => some false
        | _, _ => none
    | some (.struct fs), .agg xs, .agg ys => if P.stoodInHeld t = true then none else aeqFields (aeq P h d) (apart P) xs ys fs.toList
    | some (.slice _), .slice none _ _, .slice b _ _ => some b.isNone
    | some (.slice _), .slice (some _) _ _, .slice none _ _ => some false
    | some (.map _ _), .map none, .map b => some b.isNone
    | some (.map _ _), .map (some _), .map none => some false
    | some (.func _ _ _), .nilFunc, .nilFunc => some true
    | some (.func _ _ _), .nilFunc, .func _ _ _ => some false
    | some (.func _ _ _), .func _ _ _, .nilFunc => some false
    | _, _, _ => none
@[go_sem] theorem aeq_step {d : Nat} {t : TypeId} {x y : Value} : aeq P h (d + 1) t x y = aeqS P h d t (P.underlying t) x y := rfl
variable {d : Nat} {t : TypeId}
@[go_sem] theorem aeqS_bool {a b : Bool} : aeqS P h d t (some .bool) (.bool a) (.bool b) = some (a == b) := rfl
@[go_sem] theorem aeqS_int {k k' : IntKind} {a b : Int} : aeqS P h d t (some (.int k')) (.int k a) (.int k b) = some (decide (a = b)) := by
  show (if k = k then some (a == b) else none) = _
  rw [if_pos rfl, beq_int]
@[go_sem] theorem aeqS_ptr0 {e : TypeId} {b : Option Addr} : aeqS P h d t (some (.pointer e)) (.pointer none) (.pointer b) = some b.isNone := by cases b <;> rfl
@[go_sem] theorem aeqS_ptr1 {e : TypeId} {b : Addr} : aeqS P h d t (some (.pointer e)) (.pointer (some b)) (.pointer none) = some false := rfl
@[go_sem] theorem aeqS_slice0 {e : TypeId} {b : Option Addr} {n c n' c' : Nat} : aeqS P h d t (some (.slice e)) (.slice none n c) (.slice b n' c') = some b.isNone := by cases b <;> rfl
@[go_sem] theorem aeqS_slice1 {e : TypeId} {b : Addr} {n c n' c' : Nat} : aeqS P h d t (some (.slice e)) (.slice (some b) n c) (.slice none n' c') = some false := rfl
@[go_sem] theorem aeqS_struct {fs : Array Field} {xs ys : Array Value} : aeqS P h d t (some (.struct fs)) (.agg xs) (.agg ys) = if P.stoodInHeld t = true then none else aeqFields (aeq P h d) (apart P) xs ys fs.toList := rfl
@[go_sem] theorem aeqFields_nil {eqf : TypeId → Value → Value → Option Bool} {part : TypeId → Nat → Array Value → Option Value} {xs ys : Array Value} : aeqFields eqf part xs ys [] = some true := rfl
def eqP (eqf : TypeId → Value → Value → Option Bool) (t : TypeId) : Option Value → Option Value → Option Bool
  | some a, some b => eqf t a b
  | _, _ => none
@[go_sem] theorem eqP_some {eqf : TypeId → Value → Value → Option Bool} {a b : Value} : eqP eqf t (some a) (some b) = eqf t a b := rfl
@[go_sem] theorem aeqFields_cons {eqf : TypeId → Value → Value → Option Bool} {part : TypeId → Nat → Array Value → Option Value} {xs ys : Array Value} {f : Field} {fs : List Field} : aeqFields eqf part xs ys (f :: fs) =
    if f.name ≠ "_" then andO (eqP eqf f.type (part f.type f.offset xs) (part f.type f.offset ys)) (aeqFields eqf part xs ys fs) else aeqFields eqf part xs ys fs := by
  rw [aeqFields]
  split
  · cases part f.type f.offset xs with
    | none => rfl
    | some a =>
      cases part f.type f.offset ys with
      | none => rfl
      | some b =>
        simp only [eqP]
        cases eqf f.type a b with
        | none => rfl
        | some b => cases b <;> rfl
  · rfl
@[go_sem] theorem aequal_agg {x y : Array Value} : aequal P h t (.agg x) (.agg y) = if P.eqGuardType P.depth t = true then none else aeq P h 9 t (.agg x) (.agg y) := rfl
@[go_sem] theorem aequal_ptr {a b : Option Addr} : aequal P h t (.pointer a) (.pointer b) = aeq P h 9 t (.pointer a) (.pointer b) := rfl
@[go_sem] theorem aequal_slice {a b : Option Addr} {n c n' c' : Nat} : aequal P h t (.slice a n c) (.slice b n' c') = aeq P h 9 t (.slice a n c) (.slice b n' c') := rfl
@[go_sem] theorem aequal_bool {a b : Bool} : aequal P h t (.bool a) (.bool b) = aeq P h 9 t (.bool a) (.bool b) := rfl
attribute [go_sem] Option.isNone_none Option.isNone_some

/-! Two operands. -/
@[go_sem] theorem abin_add {k : IntKind} {a b : Int} : abin P h .add t (.int k a) (.int k b) = some (.int k (k.wrap (a + b))) := by show (if k = k then _ else _) = _; rw [if_pos rfl]; rfl
@[go_sem] theorem abin_sub {k : IntKind} {a b : Int} : abin P h .sub t (.int k a) (.int k b) = some (.int k (k.wrap (a - b))) := by show (if k = k then _ else _) = _; rw [if_pos rfl]; rfl
@[go_sem] theorem abin_mul {k : IntKind} {a b : Int} : abin P h .mul t (.int k a) (.int k b) = some (.int k (k.wrap (a * b))) := by show (if k = k then _ else _) = _; rw [if_pos rfl]; rfl
@[go_sem] theorem abin_quo {k : IntKind} {a b : Int} : abin P h .quo t (.int k a) (.int k b) = if b = 0 then none else some (.int k (k.wrap (a.tdiv b))) := by show (if k = k then _ else _) = _; rw [if_pos rfl]; rfl
@[go_sem] theorem abin_rem {k : IntKind} {a b : Int} : abin P h .rem t (.int k a) (.int k b) = if b = 0 then none else some (.int k (a.tmod b)) := by show (if k = k then _ else _) = _; rw [if_pos rfl]; rfl
@[go_sem] theorem abin_and {k : IntKind} {a b : Int} : abin P h .and t (.int k a) (.int k b) = some (.int k (k.wrap (BitVec.ofInt k.bits a &&& BitVec.ofInt k.bits b).toNat)) := by show (if k = k then _ else _) = _; rw [if_pos rfl]; rfl
@[go_sem] theorem abin_or {k : IntKind} {a b : Int} : abin P h .or t (.int k a) (.int k b) = some (.int k (k.wrap (BitVec.ofInt k.bits a ||| BitVec.ofInt k.bits b).toNat)) := by show (if k = k then _ else _) = _; rw [if_pos rfl]; rfl
@[go_sem] theorem abin_xor {k : IntKind} {a b : Int} : abin P h .xor t (.int k a) (.int k b) = some (.int k (k.wrap (BitVec.ofInt k.bits a ^^^ BitVec.ofInt k.bits b).toNat)) := by show (if k = k then _ else _) = _; rw [if_pos rfl]; rfl
@[go_sem] theorem abin_eql {k : IntKind} {a b : Int} : abin P h .eql t (.int k a) (.int k b) = some (.bool (decide (a = b))) := by show (if k = k then some (Value.bool (a == b)) else _) = _; rw [if_pos rfl, beq_int]
@[go_sem] theorem abin_neq {k : IntKind} {a b : Int} : abin P h .neq t (.int k a) (.int k b) = some (.bool (!decide (a = b))) := by show (if k = k then some (Value.bool (a != b)) else _) = _; rw [if_pos rfl, bne_int]
@[go_sem] theorem abin_lss {k : IntKind} {a b : Int} : abin P h .lss t (.int k a) (.int k b) = some (.bool (decide (a < b))) := by show (if k = k then _ else _) = _; rw [if_pos rfl]; rfl
@[go_sem] theorem abin_leq {k : IntKind} {a b : Int} : abin P h .leq t (.int k a) (.int k b) = some (.bool (decide (a ≤ b))) := by show (if k = k then _ else _) = _; rw [if_pos rfl]; rfl
@[go_sem] theorem abin_gtr {k : IntKind} {a b : Int} : abin P h .gtr t (.int k a) (.int k b) = some (.bool (decide (b < a))) := by show (if k = k then _ else _) = _; rw [if_pos rfl]; rfl
@[go_sem] theorem abin_geq {k : IntKind} {a b : Int} : abin P h .geq t (.int k a) (.int k b) = some (.bool (decide (b ≤ a))) := by show (if k = k then _ else _) = _; rw [if_pos rfl]; rfl
@[go_sem] theorem abin_shl {k k' : IntKind} {a b : Int} : abin P h .shl t (.int k a) (.int k' b) = if b < 0 then none else some (.int k (k.wrap (a * 2 ^ (min b.toNat k.bits)))) := rfl
@[go_sem] theorem abin_shr {k k' : IntKind} {a b : Int} : abin P h .shr t (.int k a) (.int k' b) = if b < 0 then none else some (.int k (a.fdiv (2 ^ (min b.toNat k.bits)))) := rfl
@[go_sem] theorem abin_str {op : BinOp} {a b : ByteArray} : abin P h op t (.string a) (.string b) = astr op a b := rfl
@[go_sem] theorem abin_eqlA {x y : Array Value} : abin P h .eql t (.agg x) (.agg y) = (aequal P h t (.agg x) (.agg y)).map .bool := rfl
@[go_sem] theorem abin_neqA {x y : Array Value} : abin P h .neq t (.agg x) (.agg y) = (aequal P h t (.agg x) (.agg y)).map fun b => .bool (!b) := rfl
@[go_sem] theorem abin_eqlP {x y : Option Addr} : abin P h .eql t (.pointer x) (.pointer y) = (aequal P h t (.pointer x) (.pointer y)).map .bool := rfl
@[go_sem] theorem abin_neqP {x y : Option Addr} : abin P h .neq t (.pointer x) (.pointer y) = (aequal P h t (.pointer x) (.pointer y)).map fun b => .bool (!b) := rfl
@[go_sem] theorem abin_eqlS {x y : Option Addr} {n c n' c' : Nat} : abin P h .eql t (.slice x n c) (.slice y n' c') = (aequal P h t (.slice x n c) (.slice y n' c')).map .bool := rfl
@[go_sem] theorem abin_neqS {x y : Option Addr} {n c n' c' : Nat} : abin P h .neq t (.slice x n c) (.slice y n' c') = (aequal P h t (.slice x n c) (.slice y n' c')).map fun b => .bool (!b) := rfl
@[go_sem] theorem abin_eqlB {x y : Bool} : abin P h .eql t (.bool x) (.bool y) = (aequal P h t (.bool x) (.bool y)).map .bool := rfl
@[go_sem] theorem abin_neqB {x y : Bool} : abin P h .neq t (.bool x) (.bool y) = (aequal P h t (.bool x) (.bool y)).map fun b => .bool (!b) := rfl
end

@[go_sem] theorem plainV_bool {n : Nat} {b : Bool} : plainV n (.bool b) = true := by cases n <;> rfl
@[go_sem] theorem plainV_int {n : Nat} {k : IntKind} {x : Int} : plainV n (.int k x) = true := by cases n <;> rfl
@[go_sem] theorem plainV_string {n : Nat} {s : ByteArray} : plainV n (.string s) = true := by cases n <;> rfl
@[go_sem] theorem plainV_ptr {n : Nat} : plainV n (.pointer none) = true := by cases n <;> rfl
@[go_sem] theorem plainV_slice {n : Nat} : plainV n (.slice none 0 0) = true := by cases n <;> rfl
@[go_sem] theorem plainV_map {n : Nat} : plainV n (.map none) = true := by cases n <;> rfl
@[go_sem] theorem plainV_nilFunc {n : Nat} : plainV n .nilFunc = true := by cases n <;> rfl
@[go_sem] theorem plainV_nilIface {n : Nat} : plainV n .nilIface = true := by cases n <;> rfl
@[go_sem] theorem plainV_agg {n : Nat} {l : List Value} : plainV (n + 1) (.agg l.toArray) = l.all (plainV n) := by simp [plainV]

@[go_sem] theorem azeros_zero {z : List Value} : azeros z 0 = [] := rfl
@[go_sem] theorem azeros_succ {z : List Value} {n : Nat} : azeros z (n + 1) = azeros z n ++ [z.getD (n % z.length) undef] := by simp [azeros, List.range_succ]
attribute [go_sem] List.getD_cons_zero List.getD_cons_succ Nat.zero_le

/-! append. -/
section
variable {h : AHeap} {sz bytes n : Nat} {news : List Value}
theorem aappend_nil : aappend h sz bytes (.slice none 0 0) n news = if n = 0 then some (.slice none 0 0, h)
    else if n * bytes ≤ 140737488355328 ∧ n ≤ 4611686018427387904 then some (.slice (some ⟨h.next, 0, some sz⟩) n n, h.push (.cells news (.tail sz))) else none := rfl
/-- Where the new elements go, an object being there. -/
def appIn (h : AHeap) (b o sp' : Nat) (sp : Option Nat) (len n cap sz : Nat) (news : List Value) : AObj → Option (Value × AHeap)
  | .cells c md => if md ≠ .ro ∧ o + (len + n) * sz ≤ c.length then some (.slice (some ⟨b, o, sp⟩) (len + n) cap, h.set b (.cells (putCells c (o + len * sz) news) md)) else none
  | _ => none
def appMove (h : AHeap) (b o : Nat) (len n sz₀ sz : Nat) (news : List Value) : AObj → Option (Value × AHeap)
  | .cells c (.tail sz') => if sz' = sz ∧ sz₀ = sz ∧ o + len * sz ≤ c.length then
      some (.slice (some ⟨h.next, 0, some sz⟩) (len + n) (len + n), (h.set b .dead).push (.cells ((c.drop o).take (len * sz) ++ news) (.tail sz))) else none
  | _ => none
def appNew (h : AHeap) (len n sz : Nat) (news : List Value) : Option (List Value) → Option (Value × AHeap)
  | some old => some (.slice (some ⟨h.next, 0, some sz⟩) (len + n) (len + n), h.push (.cells (old ++ news) (.tail sz)))
  | none => none
theorem aappend_x {b o len cap : Nat} : aappend h sz bytes (.slice (some ⟨b, o, none⟩) len cap) n news =
    if len + n ≤ cap then (if n = 0 then some (.slice (some ⟨b, o, none⟩) len cap, h) else appIn h b o 0 none len n cap sz news (h.get b))
    else if (len + n) * bytes ≤ 140737488355328 ∧ len + n ≤ 4611686018427387904 then appNew h len n sz news (acells h sz len (.slice (some ⟨b, o, none⟩) len cap)) else none := by
  unfold aappend
  simp only
  split
  · split
    · rfl
    · unfold appIn; cases h.get b <;> rfl
  · split
    · unfold appNew; cases acells h sz len (.slice (some ⟨b, o, none⟩) len cap) <;> rfl
    · rfl
theorem aappend_u {b o s len cap : Nat} : aappend h sz bytes (.slice (some ⟨b, o, some s⟩) len cap) n news =
    if n = 0 then some (.slice (some ⟨b, o, some s⟩) len cap, h)
    else if len + n ≤ cap then appIn h b o 0 (some s) len n cap sz news (h.get b)
    else if (len + n) * bytes ≤ 140737488355328 ∧ len + n ≤ 4611686018427387904 then appMove h b o len n s sz news (h.get b) else none := by
  unfold aappend
  simp only
  split
  · rfl
  · split
    · unfold appIn; cases h.get b <;> rfl
    · split
      · unfold appMove
        cases h.get b with
        | cells c md => cases md <;> rfl
        | _ => rfl
      · rfl
@[go_sem] theorem appIn_cells {b o sp' : Nat} {sp : Option Nat} {len cap : Nat} {c : List Value} {md : Md} : appIn h b o sp' sp len n cap sz news (.cells c md) =
    if md ≠ .ro ∧ o + (len + n) * sz ≤ c.length then some (.slice (some ⟨b, o, sp⟩) (len + n) cap, h.set b (.cells (putCells c (o + len * sz) news) md)) else none := rfl
@[go_sem] theorem appMove_cells {b o s len sz' : Nat} {c : List Value} : appMove h b o len n s sz news (.cells c (.tail sz')) =
    if sz' = sz ∧ s = sz ∧ o + len * sz ≤ c.length then
      some (.slice (some ⟨h.next, 0, some sz⟩) (len + n) (len + n), (h.set b .dead).push (.cells ((c.drop o).take (len * sz) ++ news) (.tail sz))) else none := rfl
@[go_sem] theorem appNew_some {len : Nat} {old : List Value} : appNew h len n sz news (some old) = some (.slice (some ⟨h.next, 0, some sz⟩) (len + n) (len + n), h.push (.cells (old ++ news) (.tail sz))) := rfl
@[go_sem] theorem acells_zero {a : Addr} {len cap : Nat} : acells h sz 0 (.slice (some a) len cap) = some [] := by simp [acells]
end

/-- The cells of what was just made. -/
@[go_sem] theorem acells_fresh {h : AHeap} {c : List Value} {md : Md} {sz n m cap : Nat} {sp : Option Nat} : acells (h.push (.cells c md)) sz n (.slice (some ⟨h.next, 0, sp⟩) m cap) =
    if n * sz = 0 then some [] else if n * sz ≤ c.length then some (c.take (n * sz)) else none := by
  unfold acells
  simp only [AHeap.get_push_self, Nat.zero_add, List.drop_zero]

end Go.AM
