/- volume: shards (the shard seat's texts), the first part. -/
import Derived.Test.YtedpfdflolkpeaaGreatDoorVoC
import Derived.Test.YtedpfdflolkpeaaGreatDoorAmRange
set_option linter.unusedSimpArgs false
set_option linter.unusedVariables false
set_option linter.unnecessarySimpa false
set_option maxRecDepth 100000
namespace Go.Proofs.YtedpfdflolkpeaaGreatDoor
open Go.AM
def inJ (x : Int) : Prop := -9223372036854775808 ≤ x ∧ x ≤ 9223372036854775807
theorem int_all2 {k : IntKind} {S : Nat → Prop} {h : AHeap} {xs : List Int} (hx : ∀ n ∈ xs, k.min ≤ n ∧ n ≤ k.max) : All2 ((Rep.int k).R S h) xs (xs.map fun n => [.int k n]) := .of_map _ fun x h => ⟨rfl, hx x h⟩
theorem int_flat {k : IntKind} (xs : List Int) : (xs.map fun n => ([.int k n] : List Value)).flatten = xs.map fun n => .int k n := by
  induction xs with
  | nil => rfl
  | cons x xs ih => simp [ih]
/-- What is done to a volume. -/
structure Bop where
  kd : Int
  off : Int
  ln : Int
  data : List Nat
deriving DecidableEq
def Bop.cs (o : Bop) (v : Value) : List Value := [.int .i64 o.kd, .int .i64 o.off, .int .i64 o.ln, v]
def Bop.zero : Bop := ⟨0, 0, 0, []⟩
def rBop : Rep Bop := (Rep.pair rI (.pair rI (.pair rI rW.list))).via fun o => (o.kd, o.off, o.ln, o.data)
def Bop.inI (o : Bop) : Prop := inJ o.kd ∧ inJ o.off ∧ inJ o.ln
theorem rBop_iff {S : Nat → Prop} {h : AHeap} {m : Bop} {cs : List Value} : rBop.R S h m cs ↔ ∃ v, cs = m.cs v ∧ m.inI ∧ Words S h m.data v := by
  constructor
  · rintro ⟨c1, c2, rfl, ⟨rfl, h1⟩, c3, c4, rfl, ⟨rfl, h2⟩, c5, c6, rfl, ⟨rfl, h3⟩, v, rfl, hv⟩
    exact ⟨v, rfl, ⟨h1, h2, h3⟩, hv⟩
  · rintro ⟨v, rfl, ⟨h1, h2, h3⟩, hv⟩
    exact ⟨_, _, rfl, ⟨rfl, h1⟩, _, _, rfl, ⟨rfl, h2⟩, _, _, rfl, ⟨rfl, h3⟩, v, rfl, hv⟩
theorem bo_len (m : Bop) (v : Value) : (m.cs v).length = 4 := rfl
theorem bo_one (m : Bop) (a : Option Addr) (n c : Nat) : (m.cs (.slice a n c)).all one = true := rfl
theorem bo_take (m : Bop) (v : Value) : (m.cs v).take 4 = m.cs v := rfl
theorem bo_put (m : Bop) (v : Value) : putCells [.int .i64 0, .int .i64 0, .int .i64 0, .slice none 0 0] 0 (m.cs v) = m.cs v := rfl
theorem bo_0 (m : Bop) (v : Value) : (m.cs v)[0]? = some (.int .i64 m.kd) := rfl
theorem bo_1 (m : Bop) (v : Value) : (m.cs v)[1]? = some (.int .i64 m.off) := rfl
theorem bo_2 (m : Bop) (v : Value) : (m.cs v)[2]? = some (.int .i64 m.ln) := rfl
theorem bo_3 (m : Bop) (v : Value) : (m.cs v)[3]? = some v := rfl
theorem IsSl.atO {S : Nat → Prop} {h : AHeap} {xs : List Bop} {a : Option Addr} {n cap : Nat} (hs : IsSl rBop S h xs (.slice a n cap)) {i : Nat} (hi : i < n) :
    ∃ b off sp c md x lv, a = some ⟨b, off, sp⟩ ∧ S b ∧ h.get b = .cells c md ∧ xs[i]? = some x ∧ Words S h x.data lv ∧ x.inI ∧ off + i * 4 + 4 ≤ c.length ∧ (c.drop (off + i * 4)).take 4 = x.cs lv := by
  obtain ⟨b, off, sp, c, md, cs, x, h1, h2, h3, h4, h5, h6, h7⟩ := hs.at 4 rfl hi
  obtain ⟨lv, rfl, h8, h9⟩ := rBop_iff.1 h5
  exact ⟨b, off, sp, c, md, x, lv, h1, h2, h3, h4, h9, h8, h6, h7⟩
def Bop.rng (o : Bop) : Int × Int := if o.kd = 1 then (o.off, o.data.length) else if o.kd = 2 then (o.off, o.ln) else (0, 0)
def Bop.fits (n : Int) (o : Bop) : Prop :=
  (0 ≤ n ∧ n ≤ 1024 ∧ 1 ≤ o.rng.2 ∧ 0 ≤ o.rng.1 ∧ o.rng.2 ≤ n ∧ o.rng.1 ≤ n - o.rng.2) ∧ ((o.kd = 2 ∧ o.data.length = 0) ∨ (o.kd = 1 ∧ o.ln = 0 ∧ o.rng.2 ≤ 64))
instance (n : Int) (o : Bop) : Decidable (o.fits n) := inferInstanceAs (Decidable (_ ∧ _))
section
variable {h : AHeap} {S S' Z : Nat → Prop} {v w : Value}
/-- Numbers that are copied. -/
theorem cloneW_ok {bs : List Nat} (hb : Words S h bs v) (hn : bs.length ≤ 1099511627776) :
    Does Tryz.prog 104 #[v] h (fun u h' => h.quiet h' ∧ Lst rW h.next (fun _ => False) h' bs u) := by
  obtain ⟨a, cap, rfl⟩ := hb.shape
  refine spec_go mixed Tryz.func104 rfl Tryz.results104 (n := Tryz.f104.ntmps) (by kernel_rfl) (by simp) ?_
  rcases a with _ | ad
  · have hl := hb.len
    have h0 : bs = [] := by obtain ⟨a', cap', css, e, h1, h2, h3, _⟩ := hb; cases e; have := h3 rfl; exact List.eq_nil_of_length_eq_zero (by omega)
    subst h0
    simp only [go_sem, simprocAttr]
    first | exact ⟨.refl _, .nil _ _ _ _⟩ | exact .nil _ _ _ _
  · have hq : h.quiet (h.push (.cells [] .rw)) := .push _ _
    obtain ⟨css, e1, ha⟩ := (hb.quiet hq).acells 1 rfl
    simp only [go_sem, simprocAttr, e1, ha.ones, List.length_nil]
    obtain ⟨u, h', e, hl, hf, _⟩ := (Lst.empty rW (lo := h.next) (T := fun _ => False) (h := h.push (.cells [] .rw)) (b := h.next) (o := 0) (Nat.le_refl _) (by simp)).app 1 rfl (bytes := 8) (n := bs.length)
      (nat_all2 (fun n hn => by have := hb.vals rfl n hn; exact this)) rfl (by simp; omega) (by simp; omega) (by simp)
    rw [nat_flat, ← (nat_cells ha).1] at e
    simp only [go_sem, simprocAttr, e]
    exact ⟨Fw.behind hq hf (fun j hj => by simp at hj; omega), hl⟩
/-- Whole numbers that are copied. -/
theorem cloneI_ok {bs : List Int} (hb : Ints S h bs v) (hn : bs.length ≤ 1099511627776) :
    Does Tryz.prog 125 #[v] h (fun u h' => h.quiet h' ∧ Lst rI h.next (fun _ => False) h' bs u) := by
  obtain ⟨a, cap, rfl⟩ := hb.shape
  refine spec_go mixed Tryz.func125 rfl Tryz.results125 (n := Tryz.f125.ntmps) (by kernel_rfl) (by simp) ?_
  rcases a with _ | ad
  · have hl := hb.len
    have h0 : bs = [] := by obtain ⟨a', cap', css, e, h1, h2, h3, _⟩ := hb; cases e; have := h3 rfl; exact List.eq_nil_of_length_eq_zero (by omega)
    subst h0
    simp only [go_sem, simprocAttr]
    first | exact ⟨.refl _, .nil _ _ _ _⟩ | exact .nil _ _ _ _
  · have hq : h.quiet (h.push (.cells [] .rw)) := .push _ _
    obtain ⟨css, e1, ha⟩ := (hb.quiet hq).acells 1 rfl
    simp only [go_sem, simprocAttr, e1, ha.ones, List.length_nil]
    obtain ⟨u, h', e, hl, hf, _⟩ := (Lst.empty rI (lo := h.next) (T := fun _ => False) (h := h.push (.cells [] .rw)) (b := h.next) (o := 0) (Nat.le_refl _) (by simp)).app 1 rfl (bytes := 8) (n := bs.length)
      (int_all2 hb.ints) rfl (by simp; omega) (by simp; omega) (by simp)
    rw [int_flat, ← (int_cells ha).1] at e
    simp only [go_sem, simprocAttr, e]
    exact ⟨Fw.behind hq hf (fun j hj => by simp at hj; omega), hl⟩
theorem Range_ok {o : Bop} (hv : Words S h o.data v) : Does Tryz.prog 102 #[.agg (o.cs v).toArray] h (fun u h' => u = .tuple #[.int .i64 o.rng.1, .int .i64 o.rng.2] ∧ h.quiet h') := by
  obtain ⟨a, c, rfl⟩ := hv.shape
  refine spec_go mixed Tryz.func102 rfl Tryz.results102 (n := Tryz.f102.ntmps) (by kernel_rfl) (by simp) ?_
  simp only [go_sem, simprocAttr, bo_len, bo_one, bo_take, bo_put, bo_0]
  unfold Bop.rng
  by_cases k1 : o.kd = 1
  · simp only [go_sem, simprocAttr, k1, eq_self, decide_true, bo_1, bo_3, if_true]
    all_goals exact .push _ _
  · by_cases k2 : o.kd = 2
    · simp only [go_sem, simprocAttr, k1, k2, eq_self, decide_true, decide_false, bo_1, bo_2, if_true, if_false]
      all_goals exact .push _ _
    · simp only [go_sem, simprocAttr, k1, k2, decide_true, decide_false, if_false]
      all_goals exact .push _ _
theorem lies_ok {n i k : Int} (h0 : inJ n) (h1 : inJ i) (h2 : inJ k) : Does Tryz.prog 127 #[.int .i64 n, .int .i64 i, .int .i64 k] h (fun u h' => u = .bool (decide (0 ≤ i ∧ 0 ≤ k ∧ k ≤ n ∧ i ≤ n - k)) ∧ h' = h) := by
  refine spec_go mixed Tryz.func127 rfl Tryz.results127 (n := Tryz.f127.ntmps) (by kernel_rfl) (by simp) ?_
  simp only [go_sem, simprocAttr]
  by_cases c1 : 0 ≤ i
  · by_cases c2 : 0 ≤ k
    · by_cases c3 : k ≤ n
      · have e : IntKind.i64.wrap (n - k) = n - k := by have := h0.2; rw [wi64] <;> omega
        simp only [go_sem, simprocAttr, c1, c2, c3, decide_true, e, true_and]
      · simp only [go_sem, simprocAttr, c1, c2, c3, decide_true, decide_false, true_and, false_and]
    · simp only [go_sem, simprocAttr, c1, c2, decide_true, decide_false, true_and, false_and]
  · simp only [go_sem, simprocAttr, c1, decide_true, decide_false, true_and, false_and]
theorem rng_inJ {o : Bop} (hi : o.inI) (hl : o.data.length ≤ 9223372036854775807) : inJ o.rng.1 ∧ inJ o.rng.2 := by
  unfold Bop.rng
  split
  · exact ⟨hi.2.1, by simp only; unfold inJ; omega⟩
  · split
    · exact ⟨hi.2.1, hi.2.2⟩
    · exact ⟨by unfold inJ; simp, by unfold inJ; simp⟩
theorem bright_ok {o : Bop} {n : Int} (hi : o.inI) (hn : inJ n) (hv : Words S h o.data v) : Does Tryz.prog 106 #[.int .i64 n, .agg (o.cs v).toArray] h (fun u h' => u = .bool (decide (o.fits n)) ∧ h.quiet h') := by
  obtain ⟨a, c, rfl⟩ := hv.shape
  have hl := hv.len
  obtain ⟨j1, j2⟩ := rng_inJ hi hl.2.1
  have hno : ¬ o.fits n → Value.bool false = Value.bool (decide (o.fits n)) := fun e => by rw [decide_eq_false e]
  have hyes : o.fits n → Value.bool true = Value.bool (decide (o.fits n)) := fun e => by rw [decide_eq_true e]
  refine spec_go mixed Tryz.func106 rfl Tryz.results106 (n := Tryz.f106.ntmps) (by kernel_rfl) (by simp) ?_
  simp only [go_sem, simprocAttr, bo_len, bo_one, bo_take, bo_put]
  have q0 : h.quiet (h.push (.cells (o.cs (.slice a o.data.length c)) .rw)) := .push _ _
  have g0 : (h.push (.cells (o.cs (.slice a o.data.length c)) .rw)).get h.next = .cells (o.cs (.slice a o.data.length c)) .rw := by simp
  generalize h.push (.cells (o.cs (.slice a o.data.length c)) .rw) = k at q0 g0
  refine cl_spec (Range_ok (hv.quiet q0)) (fun u h' hp _ => hp.2) ?_
  rintro u k1 ⟨rfl, q1⟩
  have g1 := (q1.2 _ (AHeap.lt_of_alive k (by rw [g0]; simp))).trans g0
  have q01 := q0.trans q1
  have hr : ∀ q, (q ↔ o.fits n) → ∀ [Decidable q], Value.bool (decide q) = Value.bool (decide (o.fits n)) := fun q e _ => congrArg Value.bool (decide_eq_decide.2 e)
  obtain ⟨x, hx⟩ : ∃ x, o.rng.1 = x := ⟨_, rfl⟩
  obtain ⟨y, hy⟩ : ∃ y, o.rng.2 = y := ⟨_, rfl⟩
  have hf : o.fits n ↔ (0 ≤ n ∧ n ≤ 1024 ∧ 1 ≤ y ∧ 0 ≤ x ∧ y ≤ n ∧ x ≤ n - y) ∧ ((o.kd = 2 ∧ o.data.length = 0) ∨ (o.kd = 1 ∧ o.ln = 0 ∧ y ≤ 64)) := by unfold Bop.fits; rw [hx, hy]
  rw [hx, hy]
  rw [hx] at j1
  rw [hy] at j2
  simp only [go_sem, simprocAttr]
  by_cases c1 : n < 0
  · simp only [go_sem, simprocAttr, c1, decide_true]
    exact ⟨hno (by rw [hf]; omega), q01⟩
  · by_cases c2 : 1024 < n
    · simp only [go_sem, simprocAttr, c1, c2, decide_true, decide_false]
      exact ⟨hno (by rw [hf]; omega), q01⟩
    · by_cases c3 : y < 1
      · simp only [go_sem, simprocAttr, c1, c2, c3, decide_true, decide_false]
        exact ⟨hno (by rw [hf]; omega), q01⟩
      · simp only [go_sem, simprocAttr, c1, c2, c3, decide_true, decide_false]
        refine cl_spec (lies_ok hn j1 j2) (fun _ _ _ hc => absurd hc (by decide +kernel)) ?_
        rintro u k2 ⟨rfl, rfl⟩
        by_cases c4 : 0 ≤ x ∧ 0 ≤ y ∧ y ≤ n ∧ x ≤ n - y
        · simp only [go_sem, simprocAttr, decide_eq_true c4, g1, bo_0]
          by_cases k1 : o.kd = 2
          · by_cases c5 : o.data.length = 0
            · have c5' : (o.data.length : Int) = 0 := by omega
              simp only [go_sem, simprocAttr, k1, c5', eq_self, decide_true, g1, bo_3]
              exact ⟨hyes (by rw [hf]; omega), q01⟩
            · have c5' : ¬ (o.data.length : Int) = 0 := by omega
              have k1' : ¬ o.kd = 1 := by omega
              simp only [go_sem, simprocAttr, k1, c5', eq_self, decide_true, decide_false, g1, bo_3, bo_0]
              exact ⟨hno (by rw [hf]; omega), q01⟩
          · by_cases k2 : o.kd = 1
            · by_cases c6 : o.ln = 0
              · simp only [go_sem, simprocAttr, k1, k2, c6, eq_self, decide_true, decide_false, g1, bo_3, bo_0, bo_2]
                exact ⟨hr _ (by rw [hf]; omega), q01⟩
              · simp only [go_sem, simprocAttr, k1, k2, c6, eq_self, decide_true, decide_false, g1, bo_3, bo_0, bo_2]
                exact ⟨hno (by rw [hf]; omega), q01⟩
            · simp only [go_sem, simprocAttr, k1, k2, eq_self, decide_true, decide_false, g1, bo_3, bo_0, bo_2]
              exact ⟨hno (by rw [hf]; omega), q01⟩
        · simp only [go_sem, simprocAttr, decide_eq_false c4]
          exact ⟨hno (by rw [hf]; omega), q01⟩
end

theorem wpO_mono {P : Program} {C : CallRel} {ops : Array Oper} {chk : Nat → Bool} {K K' : Env → AHeap → Prop} (hK : ∀ ρ h, K ρ h → K' ρ h) : ∀ (l : List Oper) (i : Nat) (ρ : Env) (h : AHeap), wpO P C ops chk K i l ρ h → wpO P C ops chk K' i l ρ h := by
  intro l
  induction l with
  | nil => intro i ρ h hw; exact hK ρ h hw
  | cons o rest ih =>
    intro i ρ h hw
    unfold wpO at hw ⊢
    split
    · rename_i hwant
      rw [if_pos hwant] at hw
      cases hc : acall? ρ.ev o.op with
      | none =>
        simp only [hc] at hw ⊢
        cases hop : aop P ρ.ev h o.op with
        | none => simp [hop] at hw
        | some p => simp only [hop] at hw ⊢; exact ih _ _ _ hw
      | some q =>
        cases q with
        | none => simp [hc] at hw
        | some q =>
          simp only [hc] at hw ⊢
          obtain ⟨v, h', h1, h2, h3⟩ := hw
          exact ⟨v, h', h1, h2, ih _ _ _ h3⟩
    · rename_i hwant
      rw [if_neg hwant] at hw
      exact ih _ _ _ hw
theorem ro_cut {Γ : Cx} {ops : Array Oper} {chk : Nat → Bool} {i : Nat} {l : List Oper} {k : List Fr} {ρ : Env} {h : AHeap} (J : Env → AHeap → Prop) (h1 : ro Γ ops chk i l (.jo J :: k) ρ h) (h2 : ∀ ρ h, J ρ h → nx Γ k ρ h) : ro Γ ops chk i l k ρ h :=
  wpO_mono (fun ρ h hj => h2 ρ h hj) l i ρ h h1
/-- A cut behind the region in which a guard stands. -/
theorem gd_cut {Γ : Cx} {ops : Array Oper} {chk : Nat → Bool} {i : Nat} {o : Oper} {l : List Oper} {k : List Fr} {ρ : Env} {h : AHeap} {b : Bool} (J : Env → AHeap → Prop) (h1 : gd Γ ops chk i o l (.jo J :: k) ρ h b) (h2 : ∀ ρ h, J ρ h → nx Γ k ρ h) : gd Γ ops chk i o l k ρ h b := by
  unfold gd at h1 ⊢
  split
  · rename_i hb
    rw [if_pos hb] at h1
    unfold stc at h1 ⊢
    split
    · rename_i g args e
      rw [e] at h1
      obtain ⟨v, h', a, b, c⟩ := h1
      exact ⟨v, h', a, b, ro_cut J c h2⟩
    · rename_i e; rw [e] at h1; exact h1
    · rename_i e
      rw [e] at h1
      unfold stp at h1 ⊢
      split
      · rename_i e2; simp only [e2] at h1; exact ro_cut J h1 h2
      · rename_i e2; simp only [e2] at h1
  · rename_i hb
    rw [if_neg hb] at h1
    exact ro_cut J h1 h2

def wv (us : List Nat) : List Value := us.map fun n => .int .u64 (n : Nat)
/-- One block of an extent. -/
def exK (x : Ext) (k : Nat) : Ext := ⟨x.off + k, 1, x.phys + k, x.birth⟩
/-- What a block does to what is seen. -/
def kput (us : List Nat) (x : Ext) (v : List Nat) (k : Nat) : List Nat := if (x.phys + k).toNat < us.length then v.set (x.off + k).toNat (us.getD (x.phys + k).toNat 0) else v
def xput (us : List Nat) (v : List Nat) (x : Ext) : List Nat := (List.range x.len.toNat).foldl (kput us x) v
def viewL (us : List Nat) (n : Nat) (l : List Ext) : List Nat := l.foldl (xput us) (List.replicate n 0)
/-- .. and to the heap. -/
def kstep (us : List Nat) (vid : Nat) (x : Ext) (s : AHeap × List Nat) (k : Nat) : AHeap × List Nat :=
  if (x.phys + k).toNat < us.length then ((s.1.push (.cells (exK x k).cs .rw)).set vid (.cells (wv (kput us x s.2 k)) .rw), kput us x s.2 k) else (s.1.push (.cells (exK x k).cs .rw), s.2)
def xstep (us : List Nat) (vid : Nat) (s : AHeap × List Nat) (x : Ext) : AHeap × List Nat := (List.range x.len.toNat).foldl (kstep us vid x) (s.1.push (.cells x.cs .rw), s.2)

/-- Behind some blocks. -/
structure VI (h0 : AHeap) (vid n : Nat) (s : AHeap × List Nat) : Prop where
  le : h0.next ≤ s.1.next
  keep : ∀ j, j < h0.next → j ≠ vid → s.1.get j = h0.get j
  here : s.1.get vid = .cells (wv s.2) .rw
  len : s.2.length = n
theorem kput_len (us : List Nat) (x : Ext) (v : List Nat) (k : Nat) : (kput us x v k).length = v.length := by unfold kput; split <;> simp
section
variable {h0 : AHeap} {vid n : Nat} {s : AHeap × List Nat} {us : List Nat}
theorem VI.lt (a : VI h0 vid n s) : vid < s.1.next := AHeap.lt_of_alive s.1 (by rw [a.here]; simp)
theorem VI.push (a : VI h0 vid n s) (hv : vid < h0.next) (o : AObj) : VI h0 vid n (s.1.push o, s.2) :=
  ⟨by have := a.le; simp; omega, fun j hj hne => (AHeap.get_push_lt _ _ (Nat.lt_of_lt_of_le hj a.le)).trans (a.keep j hj hne), (AHeap.get_push_lt _ _ (Nat.lt_of_lt_of_le hv a.le)).trans a.here, a.len⟩
theorem VI.kstep (a : VI h0 vid n s) (hv : vid < h0.next) (x : Ext) (k : Nat) : VI h0 vid n (kstep us vid x s k) := by
  unfold Proofs.YtedpfdflolkpeaaGreatDoor.kstep
  split
  · have b := a.push hv (.cells (exK x k).cs .rw)
    exact ⟨by simpa using b.le, fun j hj hne => (AHeap.get_set_ne _ _ (Ne.symm hne)).trans (b.keep j hj hne), AHeap.get_set_self _ _ b.lt, by simp only [kput_len]; exact a.len⟩
  · exact a.push hv _
theorem VI.ksteps (hv : vid < h0.next) (x : Ext) : ∀ (l : List Nat) {s : AHeap × List Nat}, VI h0 vid n s → VI h0 vid n (l.foldl (Proofs.YtedpfdflolkpeaaGreatDoor.kstep us vid x) s)
  | [], _, a => a
  | k :: l, _, a => VI.ksteps hv x l (a.kstep hv x k)
theorem VI.xstep (a : VI h0 vid n s) (hv : vid < h0.next) (x : Ext) : VI h0 vid n (xstep us vid s x) := .ksteps hv x _ (a.push hv _)
theorem VI.xsteps (hv : vid < h0.next) : ∀ (l : List Ext) {s : AHeap × List Nat}, VI h0 vid n s → VI h0 vid n (l.foldl (Proofs.YtedpfdflolkpeaaGreatDoor.xstep us vid) s)
  | [], _, a => a
  | x :: l, _, a => VI.xsteps hv l (a.xstep hv x)
theorem kstep_snd {s : AHeap × List Nat} {x : Ext} {k : Nat} : (kstep us vid x s k).2 = kput us x s.2 k := by
  unfold kstep
  split
  · rfl
  · rename_i e; unfold kput; rw [if_neg e]
theorem ksteps_snd {x : Ext} : ∀ (l : List Nat) (s : AHeap × List Nat), (l.foldl (kstep us vid x) s).2 = l.foldl (kput us x) s.2
  | [], _ => rfl
  | k :: l, s => by rw [List.foldl_cons, ksteps_snd l, kstep_snd]; rfl
theorem xsteps_snd : ∀ (l : List Ext) (s : AHeap × List Nat), (l.foldl (xstep us vid) s).2 = l.foldl (xput us) s.2
  | [], _ => rfl
  | x :: l, s => by rw [List.foldl_cons, xsteps_snd l]; unfold xstep; rw [ksteps_snd]; rfl
end

section
variable {h : AHeap} {S S' : Nat → Prop}
theorem each_ok {a : Option Addr} {n c : Nat} : Does Tryz.prog 146 #[.slice a n c] h (fun u h' => u = .func (.func 162) #[] #[.pointer (some ⟨h.next, 0, none⟩)] ∧ h' = h.push (.cells [.slice a n c] .rw)) := by
  refine spec_go mixed Tryz.func146 rfl Tryz.results146 (n := Tryz.f146.ntmps) (by kernel_rfl) (by simp) ?_
  simp only [go_sem, simprocAttr]

theorem View_ok {xs : List Ext} {lv uv : Value} {us : List Nat} {n : Int} (hx : IsSl rExt S h xs lv) (hu : Words S' h us uv) (g : GoodL xs) (hn : 0 ≤ n ∧ n ≤ 1024) (he : ∀ x ∈ xs, x.off + x.len ≤ n) :
    Does Tryz.prog 129 #[lv, .int .i64 n, uv] h (fun u h' => ∃ b, u = .tuple #[.slice (some ⟨b, 0, none⟩) n.toNat n.toNat, .int .i64 0] ∧ h.next ≤ b ∧ h'.get b = .cells (wv (viewL us n.toNat xs)) .rw ∧ h.quiet h') := by
  obtain ⟨al, cl_, rfl⟩ := hx.shape
  obtain ⟨au, cu, rfl⟩ := hu.shape
  have hxl := hx.len
  refine spec_go mixed Tryz.func129 rfl Tryz.results129 (n := Tryz.f129.ntmps) (by kernel_rfl) (by simp) ?_
  simp only [go_sem, simprocAttr]
  have q0 : h.quiet (h.push (.cells [.slice au us.length cu] .rw)) := .push _ _
  have g5 : (h.push (.cells [.slice au us.length cu] .rw)).get h.next = .cells [.slice au us.length cu] .rw := by simp
  generalize h.push (.cells [.slice au us.length cu] .rw) = k0 at q0 g5 ⊢
  have l5 := AHeap.lt_of_alive k0 (i := h.next) (by rw [g5]; simp)
  refine cl_spec (Right_ok (hx.quiet q0)) (fun _ _ _ hc => absurd hc (by decide +kernel)) ?_
  rintro u k1 ⟨⟨b, rfl, hb⟩, q1⟩
  have hb1 : b = true := hb.2 (right_iff.2 g)
  subst hb1
  have n1 : ¬ n < 0 := by omega
  have n2 : ¬ 1024 < n := by omega
  have g51 := (q1.2 _ l5).trans g5
  have Q1 := q0.trans q1
  simp only [go_sem, simprocAttr, n1, n2, decide_false]
  refine gd_cut (fun ρ k => ρ 43 = .bool false ∧ k = k1 ∧ ρ 0 = .slice al xs.length cl_ ∧ ρ 1 = .int .i64 n ∧ ρ 5 = .pointer (some ⟨h.next, 0, none⟩)) ?_ ?_
  · by_cases h0 : 0 < xs.length
    · have h0' : (0 : Int) < (xs.length : Int) := by omega
      obtain ⟨b, off, sp, cc, md, x, hA, _, hg, hxi, hxx, hle, hdt⟩ := IsSl.atX (hx.quiet Q1) (i := xs.length - 1) (by omega)
      have ox := g.1 x (List.mem_of_getElem? hxi)
      have ox' := ox
      unfold Ext.ok at ox'
      have hex := he x (List.mem_of_getElem? hxi)
      unfold Ext.cs at hdt
      have e1 : IntKind.i64.wrap ((xs.length : Int) - 1) = ((xs.length - 1 : Nat) : Int) := by rw [wi64] <;> omega
      have e2 : IntKind.i64.wrap (x.off + x.len) = x.off + x.len := by rw [wi64] <;> omega
      have e3 : ¬ n < x.off + x.len := by omega
      have e4 : xs.length - 1 < xs.length := by omega
      have f0 := seg_get hdt (k := 0) (by omega)
      have f1 := seg_get hdt (k := 1) (by omega)
      rw [Nat.add_zero] at f0
      simp only [go_sem, simprocAttr, h0', decide_true, e1, hA, hg, e4, hle, f0, f1, e2, e3, decide_false]
      exact Hold.mk ⟨by simp only [go_sem, simprocAttr], rfl, by simp only [go_sem, simprocAttr, hA], by simp only [go_sem, simprocAttr], by simp only [go_sem, simprocAttr]⟩
    · have h0' : ¬ (0 : Int) < (xs.length : Int) := by omega
      simp only [go_sem, simprocAttr, h0', decide_false]
      exact Hold.mk ⟨by simp only [go_sem, simprocAttr], rfl, by simp only [go_sem, simprocAttr], by simp only [go_sem, simprocAttr], by simp only [go_sem, simprocAttr]⟩
  · rintro ρ k ⟨r43, rfl, r0, r1, r5⟩
    have m1 : 0 ≤ n ∧ n ≤ n ∧ 8 * n ≤ 281474976710656 ∧ n ≤ 281474976710656 := by omega
    simp only [go_sem, simprocAttr, r43, r0, r1, r5, if_pos m1]
    refine cl_gen fun k2 g2 => ?_
    have q2 : k.quiet k2 := by rw [g2]; simp only [go_sem, simprocAttr]
    have gv : k2.get k.next = .cells (azeros [.int .u64 0] n.toNat) .rw := by rw [g2]; simp only [go_sem, simprocAttr]
    have gb : k2.get (k.next + 1) = .cells [.slice (some ⟨k.next, 0, none⟩) n.toNat n.toNat] .rw := by rw [g2]; simp only [go_sem, simprocAttr]
    have n2 : k2.next = k.next + 2 := by rw [g2]; simp
    clear g2
    refine cl_spec each_ok (fun u h' hp _ => by rw [hp.2]; exact .push _ _) ?_
    rintro u k3 ⟨rfl, hk3⟩
    have q3 : k2.quiet k3 := by rw [hk3]; exact .push _ _
    have gl : k3.get k2.next = .cells [.slice al xs.length cl_] .rw := by rw [hk3]; simp only [go_sem, simprocAttr]
    have n3 : k3.next = k2.next + 1 := by rw [hk3]; simp
    clear hk3
    have hz : azeros [.int .u64 0] n.toNat = wv (List.replicate n.toNat 0) := by
      simp only [azeros, wv, List.map_replicate]
      refine List.ext_getElem (by simp) fun i h1 h2 => ?_
      simp [Nat.mod_one]
    have v0 : VI k3 k.next n.toNat (k3, List.replicate n.toNat 0) := ⟨Nat.le_refl _, fun _ _ _ => rfl, by rw [q3.2 _ (by omega), gv, hz], by simp⟩
    have hvid : k.next < k3.next := by omega
    have gb3 := (q3.2 _ (by omega)).trans gb
    have gu3 := (q3.2 _ (by have := q2.1; have := Q1.1; omega)).trans ((q2.2 _ (AHeap.lt_of_alive k (by rw [g51]; simp))).trans g51)
    have Q3 := Q1.trans (q2.trans q3)
    have hx3b := hx.bound.quiet Q3
    have hu3 := hu.quiet Q3
    simp only [go_sem, simprocAttr]
    refine rgf_of mixed (gf := 162) (lb := #[.pointer (some ⟨k2.next, 0, none⟩)]) (by simp only [go_sem, simprocAttr]) rfl (by kernel_rfl) (by kernel_rfl) Tryz.func162 rfl Tryz.results162 (n := Tryz.f162.ntmps) (by kernel_rfl) (by kernel_rfl) (by simp)
      (xs.foldl (xstep us k.next) (k3, List.replicate n.toNat 0)).1 ?_ ?_
    · intro l
      simp only [go_sem, simprocAttr, gl]
      refine go_loop (fun z ρ w => ∃ i : Nat, i ≤ xs.length ∧ z = xs.length - i ∧ w = ((xs.take i).foldl (xstep us k.next) (k3, List.replicate n.toNat 0)).1 ∧
        ρ 0 = .func (.yield l) #[] #[] ∧ ρ 6 = .slice al xs.length cl_ ∧ ρ 7 = .int .i64 xs.length ∧ ρ 8 = .int .i64 i) xs.length ⟨0, by omega, by omega, rfl, by simp only [go_sem, simprocAttr]⟩ ?_
      rintro z ρ w ⟨i, hi, rfl, rfl, s0, s6, s7, s8⟩
      have vi := VI.xsteps (us := us) hvid (xs.take i) v0
      obtain ⟨s, hs⟩ : ∃ s, (xs.take i).foldl (xstep us k.next) (k3, List.replicate n.toNat 0) = s := ⟨_, rfl⟩
      rw [hs] at vi ⊢
      simp only [go_sem, simprocAttr, s0, s6, s7, s8]
      refine cnd_decide (fun hy => ?_) (fun hy => ?_)
      · have h1 : i < xs.length := by omega
        obtain ⟨b, off, sp, cc, md, x, hA, hSb, hg, hxi, hxx, hle, hdt⟩ := IsSl.atX hx3b h1
        have ox := g.1 x (List.mem_of_getElem? hxi)
        unfold Ext.ok at ox
        have hex := he x (List.mem_of_getElem? hxi)
        have hgs : s.1.get b = .cells cc md := (vi.keep b (by have := Q3.1; omega) (by have := Q1.1; omega)).trans hg
        have e8 : IntKind.i64.wrap ((i : Int) + 1) = ((i + 1 : Nat) : Int) := by rw [wi64] <;> omega
        have es : (xs.take (i + 1)).foldl (xstep us k.next) (k3, List.replicate n.toNat 0) = xstep us k.next s x := by
          rw [List.take_add_one, hxi, List.foldl_append, hs]; rfl
        unfold Ext.cs at hdt
        simp only [go_sem, simprocAttr, s0, s6, s7, s8, hA, hgs, hle, hdt, h1, decide_true]
        obtain ⟨w1, hw1⟩ : ∃ w1, s.1.push (.cells [.int .i64 x.off, .int .i64 x.len, .int .i64 x.phys, .int .i64 x.birth] .rw) = w1 := ⟨_, rfl⟩
        have vi1 : VI k3 k.next n.toNat (w1, s.2) := by rw [← hw1]; exact vi.push hvid _
        have gx : w1.get s.1.next = .cells [.int .i64 x.off, .int .i64 x.len, .int .i64 x.phys, .int .i64 x.birth] .rw := by rw [← hw1]; simp only [go_sem, simprocAttr]
        have nw : w1.next = s.1.next + 1 := by rw [← hw1]; simp
        have hw1' : s.1.push (.cells x.cs .rw) = w1 := hw1
        rw [hw1]
        refine go_loop (fun z ρ' w' => ∃ j : Nat, j ≤ x.len.toNat ∧ z = x.len.toNat - j ∧ w' = ((List.range j).foldl (kstep us k.next x) (w1, s.2)).1 ∧
          ρ' 0 = .func (.yield l) #[] #[] ∧ ρ' 6 = .slice al xs.length cl_ ∧ ρ' 7 = .int .i64 xs.length ∧ ρ' 8 = .int .i64 i ∧ ρ' 4 = .pointer (some ⟨s.1.next, 0, none⟩) ∧ ρ' 13 = .int .i64 x.len ∧ ρ' 14 = .int .i64 j) x.len.toNat
          ⟨0, by omega, by omega, rfl, by simp only [go_sem, simprocAttr, s0, s6, s7, s8, hA]⟩ ?_
        rintro z ρ' w' ⟨j, hj, rfl, rfl, u0, u6, u7, u8, u4, u13, u14⟩
        have vj := VI.ksteps (us := us) hvid x (List.range j) vi1
        obtain ⟨sj, hsj⟩ : ∃ sj, (List.range j).foldl (kstep us k.next x) (w1, s.2) = sj := ⟨_, rfl⟩
        have ej : (List.range (j + 1)).foldl (kstep us k.next x) (w1, s.2) = kstep us k.next x sj j := by
          rw [List.range_succ, List.foldl_append, hsj]; rfl
        have vjw := VI.ksteps (us := us) (h0 := w1) (n := n.toNat) (vid := k.next) (s := (w1, s.2)) (Nat.lt_of_lt_of_le hvid vi1.le) x (List.range j) ⟨Nat.le_refl _, fun _ _ _ => rfl, vi1.here, vi1.len⟩
        rw [hsj] at vj vjw ⊢
        have gxj := (vjw.keep s.1.next (by omega) (by have := vi.lt; omega)).trans gx
        simp only [go_sem, simprocAttr, u0, u6, u7, u8, u4, u13, u14]
        refine cnd_decide (fun hy => ?_) (fun hy => ?_)
        · have hj1 : j < x.len.toNat := by omega
          have w1_ : IntKind.i64.wrap (x.off + j) = x.off + j := by rw [wi64] <;> omega
          have w2_ : IntKind.i64.wrap (x.phys + j) = x.phys + j := by rw [wi64] <;> omega
          have w3_ : IntKind.i64.wrap ((j : Int) + 1) = ((j + 1 : Nat) : Int) := by rw [wi64] <;> omega
          simp only [go_sem, simprocAttr, u0, u6, u7, u8, u4, u13, u14, gxj, w1_, w2_]
          refine cl_yield (v := .bool true) (h' := (kstep us k.next x sj j).1) ⟨rfl, rfl, rfl, ?_⟩ (fun hc => by cases hc) ?_
          · have lu : h.next < sj.1.next := by have := vj.le; have := Q3.1; have := Q1.1; have := l5; have := q1.1; simp only at *; omega
            have gu_ : ∀ o, (sj.1.push o).get h.next = .cells [.slice au us.length cu] .rw := fun o => (AHeap.get_push_lt _ _ lu).trans ((vj.keep _ (by have := Q3.1; have := Q1.1; have := l5; have := q1.1; omega) (by have := Q1.1; have := l5; have := q1.1; omega)).trans gu3)
            have gb_ : ∀ o, (sj.1.push o).get (k.next + 1) = .cells [.slice (some ⟨k.next, 0, none⟩) n.toNat n.toNat] .rw := fun o => (AHeap.get_push_lt _ _ (by have := vj.le; omega)).trans ((vj.keep _ (by omega) (by omega)).trans gb3)
            have gv_ : ∀ o, (sj.1.push o).get k.next = .cells (wv sj.2) .rw := fun o => (AHeap.get_push_lt _ _ vj.lt).trans vj.here
            simp only [go_sem, simprocAttr, setsE, List.zip_cons_cons, List.zip_nil_right, List.foldl_cons, List.foldl_nil, r5, gu_]
            refine cnd_decide (fun hc => ?_) (fun hc => ?_)
            · have hc' : (x.phys + j).toNat < us.length := by omega
              have hp0 : (0 : Int) ≤ x.phys + j := by omega
              have ho0 : (0 : Int) ≤ x.off + j := by omega
              have ho1 : x.off + j < (n.toNat : Int) := by omega
              obtain ⟨bu, ou, su, cu_, mu, y, hAu, hSu, hgu, hyi, hyl, hyd⟩ := (hu.bound.quiet Q3).atN hc'
              have hgu_ : ∀ o, (sj.1.push o).get bu = .cells cu_ mu := fun o => (AHeap.get_push_lt _ _ (by have := vj.le; have := Q3.1; simp only at *; omega)).trans ((vj.keep _ (by have := Q3.1; omega) (by have := Q1.1; omega)).trans hgu)
              simp only [go_sem, simprocAttr, setsE, List.zip_cons_cons, List.zip_nil_right, List.foldl_cons, List.foldl_nil, r5, gu_, gb_, hAu, hgu_, hp0, hc, hyd, ho0, ho1, gv_, true_and, if_true]
              have hlw : (x.off + j).toNat + 1 ≤ (wv sj.2).length := by have := vj.len; unfold wv; rw [List.length_map]; omega
              simp only [go_sem, simprocAttr, hlw, if_true]
              refine Hold.mk ?_
              have hyy : us.getD (x.phys + j).toNat 0 = y := by rw [List.getD, hyi]; rfl
              unfold kstep kput
              rw [if_pos hc', if_pos hc', hyy]
              unfold wv
              rw [List.map_set]
              rfl
            · have hc' : ¬ (x.phys + j).toNat < us.length := by omega
              simp only [go_sem, simprocAttr]
              refine Hold.mk ?_
              unfold kstep
              rw [if_neg hc']
              rfl
          · simp only [go_sem, simprocAttr, u14, w3_]
            refine Hold.mk ⟨x.len.toNat - (j + 1), by omega, j + 1, by omega, rfl, by rw [ej], by simp only [go_sem, simprocAttr, u0, u6, u7, u8, u4, u13]⟩
        · have hjx : j = x.len.toNat := by omega
          simp only [go_sem, simprocAttr, u0, u6, u7, u8, u4, u13, u14, e8]
          refine Hold.mk ⟨xs.length - (i + 1), by omega, i + 1, by omega, rfl, ?_, by simp only [go_sem, simprocAttr, u0, u6, u7, hA]⟩
          rw [es, ← hsj, hjx, ← hw1']; rfl
      · have hi' : i = xs.length := by omega
        subst hi'
        rw [List.take_length] at hs
        simp only [go_sem, simprocAttr, hs]
        done
    · have vi := VI.xsteps (us := us) hvid xs v0
      have gvb := (vi.keep (k.next + 1) (by omega) (by omega)).trans gb3
      have gvh := vi.here
      rw [xsteps_snd] at gvh
      simp only [go_sem, simprocAttr, gvb]
      exact ⟨k.next, rfl, Q1.1, gvh, ⟨Nat.le_trans Q3.1 vi.le, fun j hj => (vi.keep j (by have := Q3.1; omega) (by have := Q1.1; omega)).trans (Q3.2 j hj)⟩⟩
end

/-! A map of numbers. -/
def MsI (es : List MapEntry) (m : List (Int × Int)) : Prop := es.map (fun e => (e.key, e.val)) = m.map fun p => (Value.int .i64 p.1, Value.int .i64 p.2)
def lookS : List (Int × Int) → Int → Option Int
  | [], _ => none
  | p :: ps, n => if n = p.1 then some p.2 else lookS ps n
def delS : List (Int × Int) → Int → List (Int × Int)
  | [], _ => []
  | p :: ps, n => if n = p.1 then ps else p :: delS ps n
theorem MsI.len {es : List MapEntry} {m : List (Int × Int)} (hm : MsI es m) : es.length = m.length := by simpa using congrArg List.length hm
theorem MsI.find {n : Int} : ∀ {es : List MapEntry} {m : List (Int × Int)} (_ : MsI es m) (i : Nat), (∃ k r, lookS m n = some r ∧ afind .i64 n es i = some (some (i + k, .int .i64 r)) ∧ MsI (es.eraseIdx k) (delS m n)) ∨
    (afind .i64 n es i = some none ∧ lookS m n = none)
  | [], [], _, i => .inr ⟨rfl, rfl⟩
  | [], _ :: _, hm, _ => by simp [MsI] at hm
  | _ :: _, [], hm, _ => by simp [MsI] at hm
  | e :: es, p :: ps, hm, i => by
    unfold MsI at hm
    simp only [List.map_cons, List.cons.injEq, Prod.mk.injEq] at hm
    obtain ⟨⟨h1, h2⟩, h3⟩ := hm
    unfold afind lookS delS
    simp only [h1, if_true]
    by_cases hn : n = p.1
    · left
      refine ⟨0, p.2, by rw [if_pos hn], by rw [if_pos hn, h2]; rfl, ?_⟩
      rw [if_pos hn]
      exact h3
    · simp only [if_neg hn]
      rcases MsI.find (n := n) (es := es) (m := ps) h3 (i + 1) with ⟨k, r, k0, k1, k2⟩ | ⟨k1, k2⟩
      · refine .inl ⟨k + 1, r, k0, by rw [k1]; congr 3; omega, ?_⟩
        simp only [MsI, List.eraseIdx_cons_succ, List.map_cons, h1, h2] at k2 ⊢
        rw [k2]
      · exact .inr ⟨k1, k2⟩
theorem MsI.add {es : List MapEntry} {m : List (Int × Int)} (hm : MsI es m) (n v : Int) (b : Nat) : MsI (es ++ [{ key := .int .i64 n, val := .int .i64 v, born := b }]) (m ++ [(n, v)]) := by
  unfold MsI at hm ⊢
  rw [List.map_append, List.map_append, hm]; rfl

/-! What stays. -/
def Ks (T : Nat → Prop) (own : Nat → Nat) (h : AHeap) (own' : Nat → Nat) (h' : AHeap) : Prop := h.next ≤ h'.next ∧ ∀ j, j < h.next → own' j = own j ∧ (¬ T (own j) → h'.get j = h.get j)
section
variable {T T' : Nat → Prop} {own own' own'' : Nat → Nat} {h h' h'' : AHeap}
theorem Ks.refl : Ks T own h own h := ⟨Nat.le_refl _, fun _ _ => ⟨rfl, fun _ => rfl⟩⟩
theorem Ks.weaken (a : Ks T own h own' h') (hm : ∀ t, T t → T' t) : Ks T' own h own' h' := ⟨a.1, fun j hj => ⟨(a.2 j hj).1, fun e => (a.2 j hj).2 fun e' => e (hm _ e')⟩⟩
theorem Ks.trans (a : Ks T own h own' h') (b : Ks T own' h' own'' h'') : Ks T own h own'' h'' :=
  ⟨Nat.le_trans a.1 b.1, fun j hj => ⟨((b.2 j (Nat.lt_of_lt_of_le hj a.1)).1).trans (a.2 j hj).1, fun e => ((b.2 j (Nat.lt_of_lt_of_le hj a.1)).2 (fun e2 => e ((a.2 j hj).1 ▸ e2))).trans ((a.2 j hj).2 e)⟩⟩
theorem Ks.quiet (q : h.quiet h') (t : Nat) : Ks T own h (bump own h t) h' := ⟨q.1, fun j hj => ⟨bump_lt hj, fun _ => q.2 j hj⟩⟩
theorem Ks.set {id : Nat} (ho : T (own id)) (o : AObj) : Ks T own h own (h.set id o) := ⟨by simp, fun j _ => ⟨rfl, fun e => AHeap.get_set_ne _ _ (by rintro rfl; exact e ho)⟩⟩
theorem Ks.fw {W : Nat → Prop} (f : Fw W h h') (hw : ∀ j, j < h.next → W j → T (own j)) (t : Nat) : Ks T own h (bump own h t) h' := ⟨f.1, fun j hj => ⟨bump_lt hj, fun e => f.2 j hj fun e' => e (hw j hj e')⟩⟩
theorem Ks.kp (k : Kp own h own' h') (ht : T 1) : Ks T own h own' h' := ⟨k.1, fun j hj => ⟨(k.2 j hj).1, fun e => (k.2 j hj).2 fun e' => e (e' ▸ ht)⟩⟩
theorem Ks.tg (k : Ks T own h own' h') {s : Nat} (hs : ¬ T s) : ∀ j, tg own s j → j < h.next → tg own' s j ∧ h'.get j = h.get j := fun j hj hl => ⟨((k.2 j hl).1).trans hj, (k.2 j hl).2 fun e => hs (hj ▸ e)⟩
theorem FoAt.ks {id : Nat} {ts : List Proofs.YtedpfdflolkpeaaGreatDoor.T} (ha : FoAt own h id ts) (k : Ks T own h own' h') (h1 : ¬ T 1) (h2 : ¬ T 2) : FoAt own' h' id ts := ha.mono k.1 fun t ht => k.tg (by rcases ht with rfl | rfl <;> assumption)
end

/-! A shard. -/
structure Sm where
  n : Int
  ts : List T
  us : List Nat
  gen : Int
  now : Int
  sure : Int
  opn : List Bop
  snaps : List (Int × Int)
  frozen : Bool
def Sm.find (m : Sm) (id : Int) : Int × Int := match lookS m.snaps id with | some r => (r, 0) | none => (0, 9)
def Sm.vol (m : Sm) (root : Int) : List Nat := viewL m.us m.n.toNat (F.part m.ts root 0 1024).1

def OpL (own : Nat → Nat) (h : AHeap) (xs : List Bop) (v : Value) : Prop := Lst rBop 0 (tg own 9) h xs v ∧ ∀ j, blk v = some j → own j = 8
def MpAt (own : Nat → Nat) (h : AHeap) (mid : Nat) (m : List (Int × Int)) : Prop := own mid = 10 ∧ ∃ es ck, h.get mid = .map es ck ∧ MsI es m
def OrL (own : Nat → Nat) (h : AHeap) (xs : List Int) (v : Value) : Prop := (∀ x ∈ xs, inI x) ∧
  ((xs = [] ∧ v = .slice none 0 0) ∨ ∃ ob c cap, v = .slice (some ⟨ob, 0, some 1⟩) xs.length cap ∧ own ob = 11 ∧ h.get ob = .cells c (.tail 1) ∧ c.length = cap ∧ xs.length ≤ cap ∧ cap ≤ 1099511627776 ∧ c.take xs.length = xs.map fun x => .int .i64 x)
def shC (m : Sm) (fid : Nat) (uv ov : Value) (mid : Nat) (rv : Value) : List Value := [.int .i64 m.n, .pointer (some ⟨fid, 0, none⟩), uv, .int .i64 m.gen, .int .i64 m.now, .int .i64 m.sure, ov, .map (some mid), rv, .bool m.frozen]
structure ShC (own : Nat → Nat) (h : AHeap) (m : Sm) (fid : Nat) (uv ov : Value) (mid : Nat) (rv : Value) : Prop where
  fo : FoAt own h fid m.ts
  un : OwnL rW (tg own 7) h m.us uv
  op : OpL own h m.opn ov
  mp : MpAt own h mid m.snaps
  od : OrL own h (m.snaps.map Prod.fst) rv
def ShAt (own : Nat → Nat) (h : AHeap) (id : Nat) (m : Sm) : Prop := own id = 6 ∧ ∃ fid uv ov mid rv, h.get id = .cells (shC m fid uv ov mid rv) .rw ∧ ShC own h m fid uv ov mid rv
/-- The shard's own, that turn. -/
def shT (t : Nat) : Prop := t = 1 ∨ t = 6 ∨ t = 7 ∨ t = 8 ∨ t = 10 ∨ t = 11
section
variable {T : Nat → Prop} {own own' own'' : Nat → Nat} {h h' h'' : AHeap} {m : Sm} {id : Nat} {v : Value}
theorem OpL.ks {xs : List Bop} (o : OpL own h xs v) (k : Ks T own h own' h') (h1 : ¬ T 8) (h2 : ¬ T 9) : OpL own' h' xs v :=
  ⟨o.1.mono (Nat.le_refl _) k.1 (fun j hj hl _ => k.tg h2 j hj hl) (fun j hj hl => (k.tg h1 j (o.2 j hj) hl).2), fun j hj => (k.tg h1 j (o.2 j hj) (o.1.blk_ge hj).2).1⟩
theorem OpL.slz {xs : List Bop} (o : OpL own h xs v) : IsSl rBop (fun j => own j = 8 ∨ own j = 9) h xs v := by
  obtain ⟨⟨css, ha, h0, ⟨a, rfl, rfl, k⟩ | ⟨ob, rfl, hlo, hg⟩⟩, hz⟩ := o
  · exact .empty fun ad e => .inl (k ad e).1
  · refine ⟨_, _, css, rfl, Nat.le_refl _, Nat.le_trans h0 (by decide), (fun h => by cases h), (fun ad h => by cases h; exact .inr rfl), ?_, fun _ => ⟨_, _, _, rfl, .inl (hz _ rfl), hg, ?_, ?_⟩⟩
    · exact ha.moves fun j hj hl => ⟨.inr hj.1, rfl⟩
    · rw [ha.flat]; simp
    · rw [List.drop_zero, List.take_of_length_le]; rw [ha.flat]; exact Nat.le_refl _
theorem MpAt.ks {mid : Nat} {xs : List (Int × Int)} (o : MpAt own h mid xs) (k : Ks T own h own' h') (h1 : ¬ T 10) : MpAt own' h' mid xs := by
  obtain ⟨a, es, ck, b, c⟩ := o
  have hl := AHeap.lt_of_alive h (i := mid) (by rw [b]; simp)
  exact ⟨(k.tg h1 mid a hl).1, es, ck, (k.tg h1 mid a hl).2.trans b, c⟩
theorem OrL.ks {xs : List Int} (o : OrL own h xs v) (k : Ks T own h own' h') (h1 : ¬ T 11) : OrL own' h' xs v := by
  obtain ⟨a, b | ⟨ob, c, cap, b, d, e, f⟩⟩ := o
  · exact ⟨a, .inl b⟩
  · have hl := AHeap.lt_of_alive h (i := ob) (by rw [e]; simp)
    exact ⟨a, .inr ⟨ob, c, cap, b, (k.tg h1 ob d hl).1, (k.tg h1 ob d hl).2.trans e, f⟩⟩
theorem OrL.slz {xs : List Int} (o : OrL own h xs v) : Ints (tg own 11) h xs v := by
  obtain ⟨a, ⟨rfl, rfl⟩ | ⟨ob, c, cap, rfl, b, d, e, f, g, i⟩⟩ := o
  · exact .nil _ _ _
  · refine ⟨_, cap, xs.map fun x => [.int .i64 x], rfl, f, by omega, (fun h => by cases h), (fun ad h => by cases h; exact .inr rfl), int_all2 fun x hx => inI_iff.1 (a x hx), fun _ => ⟨_, _, _, rfl, b, d, ?_, ?_⟩⟩
    · show 0 + xs.length * 1 ≤ _; omega
    · rw [int_flat, List.drop_zero]; show List.take (xs.length * 1) c = _; rw [Nat.mul_one]; exact i
theorem ShC.ks {fid mid : Nat} {uv ov rv : Value} (c : ShC own h m fid uv ov mid rv) (k : Ks T own h own' h') (hT : ∀ t, T t → t ≠ 1 ∧ t ≠ 2 ∧ t ≠ 7 ∧ t ≠ 8 ∧ t ≠ 9 ∧ t ≠ 10 ∧ t ≠ 11) : ShC own' h' m fid uv ov mid rv :=
  ⟨c.fo.ks k (fun e => (hT _ e).1 rfl) (fun e => (hT _ e).2.1 rfl), c.un.mono k.1 (k.tg fun e => (hT _ e).2.2.1 rfl), c.op.ks k (fun e => (hT _ e).2.2.2.1 rfl) (fun e => (hT _ e).2.2.2.2.1 rfl), c.mp.ks k (fun e => (hT _ e).2.2.2.2.2.1 rfl), c.od.ks k (fun e => (hT _ e).2.2.2.2.2.2 rfl)⟩
theorem ShAt.lt (a : ShAt own h id m) : id < h.next := by obtain ⟨_, _, _, _, _, _, hg, _⟩ := a; exact AHeap.lt_of_alive h (by rw [hg]; simp)
theorem ShAt.ks (a : ShAt own h id m) (k : Ks T own h own' h') (hT : ∀ t, T t → t ≠ 1 ∧ t ≠ 2 ∧ t ≠ 7 ∧ t ≠ 8 ∧ t ≠ 9 ∧ t ≠ 10 ∧ t ≠ 11) (h6 : ¬ T 6) : ShAt own' h' id m := by
  have hl := a.lt
  obtain ⟨ho, fid, uv, ov, mid, rv, hg, c⟩ := a
  exact ⟨(k.tg h6 id ho hl).1, fid, uv, ov, mid, rv, (k.tg h6 id ho hl).2.trans hg, c.ks k hT⟩
theorem ShAt.quiet (a : ShAt own h id m) (q : h.quiet h') (t : Nat) : ShAt (bump own h t) h' id m := a.ks (T := fun _ => False) (.quiet q t) (fun _ e => e.elim) (fun e => e)

theorem sok_ok (a : ShAt own h id m) : Does Tryz.prog 90 #[.pointer (some ⟨id, 0, none⟩)] h (fun u h' => u = .bool true ∧ h' = h) := by
  obtain ⟨ho, fid, uv, ov, mid, rv, hg, c⟩ := a
  unfold shC at hg
  refine spec_go mixed Tryz.func90 rfl Tryz.results90 (n := Tryz.f90.ntmps) (by kernel_rfl) (by simp) ?_
  simp only [go_sem, simprocAttr, hg]
theorem sfind_ok (a : ShAt own h id m) {x : Int} : Does Tryz.prog 122 #[.pointer (some ⟨id, 0, none⟩), .int .i64 x] h (fun u h' => u = .tuple #[.int .i64 (m.find x).1, .int .i64 (m.find x).2] ∧ h' = h) := by
  refine spec_go mixed Tryz.func122 rfl Tryz.results122 (n := Tryz.f122.ntmps) (by kernel_rfl) (by simp) ?_
  simp only [go_sem, simprocAttr]
  refine cl_spec (sok_ok a) (fun _ _ _ hc => absurd hc (by decide +kernel)) ?_
  rintro u k ⟨rfl, rfl⟩
  obtain ⟨ho, fid, uv, ov, mid, rv, hg, c⟩ := a
  obtain ⟨_, es, ck, gm, hm⟩ := c.mp
  unfold shC at hg
  have e : ∀ r, lookS m.snaps x = some r → alookup Tryz.prog k 142 (.map (some mid)) (.int .i64 x) true = some (.tuple #[.int .i64 r, .bool true]) := fun r hr => by
    unfold alookup
    simp only [go_sem, gm]
    rcases hm.find (n := x) 0 with ⟨j, r', k0, k1, _⟩ | ⟨k1, k2⟩
    · rw [k1]; rw [hr] at k0; cases k0; rfl
    · rw [hr] at k2; cases k2
  have e' : lookS m.snaps x = none → alookup Tryz.prog k 142 (.map (some mid)) (.int .i64 x) true = some (.tuple #[.int .i64 0, .bool false]) := fun hr => by
    unfold alookup
    simp only [go_sem, gm]
    rcases hm.find (n := x) 0 with ⟨j, r', k0, k1, _⟩ | ⟨k1, k2⟩
    · rw [hr] at k0; cases k0
    · rw [k1]
  unfold Sm.find
  cases hl : lookS m.snaps x with
  | some r => simp only [go_sem, simprocAttr, hg, e r hl]
  | none => simp only [go_sem, simprocAttr, hg, e' hl]
theorem sFlush_ok (a : ShAt own h id m) : Does Tryz.prog 52 #[.pointer (some ⟨id, 0, none⟩)] h (fun u h' => u = .int .i64 0 ∧ ShAt own h' id { m with sure := m.now, opn := [] } ∧ Ks (· = 6) own h own h') := by
  refine spec_go mixed Tryz.func52 rfl Tryz.results52 (n := Tryz.f52.ntmps) (by kernel_rfl) (by simp) ?_
  simp only [go_sem, simprocAttr]
  refine cl_spec (sok_ok a) (fun _ _ _ hc => absurd hc (by decide +kernel)) ?_
  rintro u k ⟨rfl, rfl⟩
  have hl := a.lt
  obtain ⟨ho, fid, uv, ov, mid, rv, hg, c⟩ := a
  obtain ⟨au, cu, rfl⟩ := c.un.sl.shape
  obtain ⟨ao, co, rfl⟩ := c.op.slz.shape
  unfold shC at hg
  simp only [go_sem, simprocAttr, hg, AHeap.get_set_self _ _ hl, AHeap.set_set]
  have k6 : Ks (· = 6) own k own (k.set id (.cells (shC { m with sure := m.now, opn := [] } fid (.slice au m.us.length cu) (.slice none 0 0) mid rv) .rw)) := .set (T := (· = 6)) ho _
  refine ⟨⟨ho, fid, _, _, mid, rv, AHeap.get_set_self _ _ hl, ?_⟩, k6⟩
  have c' := c.ks k6 (by omega)
  exact ⟨c'.fo, c'.un, ⟨.nil _ _ _ _, fun j e => by cases e⟩, c'.mp, c'.od⟩
theorem sFreeze_ok (a : ShAt own h id m) {b : Bool} : Does Tryz.prog 97 #[.pointer (some ⟨id, 0, none⟩), .bool b] h (fun u h' => u = .int .i64 0 ∧ ShAt own h' id { m with frozen := b } ∧ Ks (· = 6) own h own h') := by
  refine spec_go mixed Tryz.func97 rfl Tryz.results97 (n := Tryz.f97.ntmps) (by kernel_rfl) (by simp) ?_
  simp only [go_sem, simprocAttr]
  refine cl_spec (sok_ok a) (fun _ _ _ hc => absurd hc (by decide +kernel)) ?_
  rintro u k ⟨rfl, rfl⟩
  have hl := a.lt
  obtain ⟨ho, fid, uv, ov, mid, rv, hg, c⟩ := a
  unfold shC at hg
  simp only [go_sem, simprocAttr, hg, AHeap.get_set_self _ _ hl]
  have k6 : Ks (· = 6) own k own (k.set id (.cells (shC { m with frozen := b } fid uv ov mid rv) .rw)) := .set (T := (· = 6)) ho _
  refine ⟨⟨ho, fid, _, _, mid, rv, AHeap.get_set_self _ _ hl, ?_⟩, k6⟩
  have c' := c.ks k6 (by omega)
  exact ⟨c'.fo, c'.un, c'.op, c'.mp, c'.od⟩
theorem sFrozen_ok (a : ShAt own h id m) : Does Tryz.prog 62 #[.pointer (some ⟨id, 0, none⟩)] h (fun u h' => u = .bool m.frozen ∧ h' = h) := by
  refine spec_go mixed Tryz.func62 rfl Tryz.results62 (n := Tryz.f62.ntmps) (by kernel_rfl) (by simp) ?_
  simp only [go_sem, simprocAttr]
  refine cl_spec (sok_ok a) (fun _ _ _ hc => absurd hc (by decide +kernel)) ?_
  rintro u k ⟨rfl, rfl⟩
  obtain ⟨ho, fid, uv, ov, mid, rv, hg, c⟩ := a
  unfold shC at hg
  simp only [go_sem, simprocAttr, hg]
theorem sDirty_ok (a : ShAt own h id m) : Does Tryz.prog 63 #[.pointer (some ⟨id, 0, none⟩)] h (fun u h' => u = .int .i64 m.opn.length ∧ h' = h) := by
  refine spec_go mixed Tryz.func63 rfl Tryz.results63 (n := Tryz.f63.ntmps) (by kernel_rfl) (by simp) ?_
  simp only [go_sem, simprocAttr]
  refine cl_spec (sok_ok a) (fun _ _ _ hc => absurd hc (by decide +kernel)) ?_
  rintro u k ⟨rfl, rfl⟩
  obtain ⟨ho, fid, uv, ov, mid, rv, hg, c⟩ := a
  obtain ⟨ao, co, rfl⟩ := c.op.slz.shape
  unfold shC at hg
  simp only [go_sem, simprocAttr, hg]
theorem sSnaps_ok (a : ShAt own h id m) (hl : m.snaps.length ≤ 1099511627776) : Does Tryz.prog 82 #[.pointer (some ⟨id, 0, none⟩)] h (fun u h' => Lst rI h.next (fun _ => False) h' (m.snaps.map Prod.fst) u ∧ h.quiet h') := by
  refine spec_go mixed Tryz.func82 rfl Tryz.results82 (n := Tryz.f82.ntmps) (by kernel_rfl) (by simp) ?_
  simp only [go_sem, simprocAttr]
  refine cl_spec (sok_ok a) (fun _ _ _ hc => absurd hc (by decide +kernel)) ?_
  rintro u k ⟨rfl, rfl⟩
  obtain ⟨ho, fid, uv, ov, mid, rv, hg, c⟩ := a
  have hs := c.od.slz
  obtain ⟨ar, cr, rfl⟩ := hs.shape
  unfold shC at hg
  simp only [go_sem, simprocAttr, hg]
  refine cl_spec (cloneI_ok hs (by rw [List.length_map]; exact hl)) (fun _ _ _ hc => absurd hc (by decide +kernel)) ?_
  rintro u k1 ⟨q1, l1⟩
  obtain ⟨au, cu, rfl, _⟩ := l1.len
  simp only [go_sem, simprocAttr]
  exact ⟨l1, q1⟩
end

/-- Extents that lie within so many blocks, and so many units. -/
def Fit (n u : Int) (l : List Ext) : Prop := ∀ x ∈ l, x.off + x.len ≤ n ∧ x.phys + x.len ≤ u
theorem Fit.mono {n u u' : Int} {l : List Ext} (f : Fit n u l) (h : u ≤ u') : Fit n u' l := fun x hx => ⟨(f x hx).1, Int.le_trans (f x hx).2 h⟩
theorem Fit.append {n u : Int} {a b : List Ext} (f : Fit n u a) (g : Fit n u b) : Fit n u (a ++ b) := fun x hx => (List.mem_append.1 hx).elim (f x) (g x)
theorem Fit.part {n u : Int} {l : List Ext} (f : Fit n u l) (hok : ∀ x ∈ l, x.ok) (a b : Int) : Fit n u (partL a b l) := fun y hy => by
  obtain ⟨x, hx, hl, rfl⟩ := partL_mem.1 hy
  have h1 := f x hx
  have h2 := hok x hx
  unfold Ext.ok at h2
  unfold Ext.lies at hl
  unfold Ext.clip
  dsimp only
  omega
theorem Fit.jstep {n u : Int} {out : List Ext} {y : Ext} (f : Fit n u out) (g : y.off + y.len ≤ n ∧ y.phys + y.len ≤ u) : Fit n u (jstep out y) := by
  have hy : Fit n u [y] := fun x hx => by obtain rfl : x = y := by simpa using hx
                                          exact g
  unfold Proofs.YtedpfdflolkpeaaGreatDoor.jstep
  split
  · rename_i z hz
    split
    · rename_i hm
      refine Fit.append (fun x hx => f x (List.dropLast_subset _ hx)) fun x hx => ?_
      obtain rfl : x = z.with y := by simpa using hx
      have := f z (List.mem_of_getLast? hz)
      unfold Ext.meets at hm
      unfold Ext.with
      dsimp only
      omega
    · exact f.append hy
  · exact f.append hy
theorem Fit.join {n u : Int} : ∀ (l : List Ext) {out : List Ext}, Fit n u out → Fit n u l → Fit n u (l.foldl Proofs.YtedpfdflolkpeaaGreatDoor.jstep out)
  | [], _, f, _ => f
  | y :: l, _, f, g => Fit.join l (f.jstep (g y (by simp))) fun x hx => g x (by simp [hx])

/-- What is done by an op. -/
def Sm.tree (m : Sm) (root : Int) (o : Bop) : T := if o.kd = 2 then Tcut (m.ts.getD root.toNat .nil) o.off o.ln else Tput (m.ts.getD root.toNat .nil) ⟨o.off, o.data.length, m.us.length, m.gen⟩
def Bop.dat (o : Bop) : List Nat := if o.kd = 2 then [] else o.data
def Sm.done (m : Sm) (root : Int) (o : Bop) : Sm := { m with ts := m.ts ++ [m.tree root o], us := m.us ++ o.dat }
def Sm.go (m : Sm) (o : Bop) : Sm := { m.done m.now o with now := m.ts.length }
def Sm.doOp (m : Sm) (o : Bop) : Int × Sm := if ¬ o.fits m.n then (1, m) else if m.frozen then (11, m) else if 256 ≤ m.opn.length then (6, m) else (0, { m.go o with opn := m.opn ++ [o] })
def Sm.flush (m : Sm) : Sm := { m with sure := m.now, opn := [] }
def Sm.snap (m : Sm) (id : Int) : Int × Sm := if id < 1 then (1, m) else if (m.find id).2 = 0 then (10, m) else if 32 ≤ m.snaps.length then (6, m) else (0, { m.flush with snaps := m.snaps ++ [(id, m.now)], gen := m.gen + 1 })
def Sm.delete (m : Sm) (id : Int) : Int × Sm := if (m.find id).2 ≠ 0 then ((m.find id).2, m) else (0, { m with snaps := delS m.snaps id })
def Sm.rollback (m : Sm) (id : Int) : Int × Sm := (if (m.find id).2 ≠ 0 then (m.find id).2 else if m.frozen then 11 else 0, if (m.find id).2 ≠ 0 ∨ m.frozen = true then m else { m with now := (m.find id).1, sure := (m.find id).1, opn := [] })
def Sm.replay (m : Sm) : List Bop → List Bool → Sm
  | [], _ => m
  | _ :: _, [] => m
  | o :: os, k :: ks => (if k then m.go o else m).replay os ks
def Sm.crash (m : Sm) (keep : List Bool) : Sm := { (({ m with now := m.sure } : Sm).replay m.opn keep).flush with frozen := false }
structure SAct where
  kd : Nat
  op : Bop
  id : Int
  yes : Bool
  keep : List Bool
def Sm.act (m : Sm) (a : SAct) : Int × Sm :=
  if a.kd % 8 = 0 then m.doOp a.op else if a.kd % 8 = 1 then (0, m.flush) else if a.kd % 8 = 2 then (0, { m with frozen := a.yes }) else if a.kd % 8 = 3 then m.snap a.id else
  if a.kd % 8 = 4 then m.delete a.id else if a.kd % 8 = 5 then m.rollback a.id else if a.kd % 8 = 6 then (0, m.crash a.keep) else (0, m)

/-- The trees and the units are right. -/
structure Core (n : Int) (ts : List T) (us : List Nat) : Prop where
  n0 : 0 ≤ n
  n1 : n ≤ 1024
  z : ts[0]? = some .nil
  g : ∀ t ∈ ts, GT t ∧ Fit n us.length t.list
structure Sm.good (m : Sm) (b : Nat) : Prop where
  c : Core m.n m.ts m.us
  now : Has m.ts m.now
  sure : Has m.ts m.sure
  sn : ∀ p ∈ m.snaps, Has m.ts p.2 ∧ 1 ≤ p.1 ∧ inI p.1
  nd : (m.snaps.map Prod.fst).Nodup
  sl : m.snaps.length ≤ 32
  op : ∀ o ∈ m.opn, o.fits m.n
  ol : m.opn.length ≤ 256
  g0 : 0 ≤ m.gen
  b1 : m.us.length + 64 * m.opn.length ≤ 128 * b
  b2 : m.ts.length + m.opn.length ≤ 1 + 2 * b
  b3 : m.gen ≤ b
theorem Core.get {n : Int} {ts : List T} {us : List Nat} (c : Core n ts us) {root : Int} (h : Has ts root) : GT (ts.getD root.toNat .nil) ∧ Fit n us.length (ts.getD root.toNat .nil).list := by
  unfold Has at h
  have hl : root.toNat < ts.length := by omega
  rw [List.getD, List.getElem?_eq_getElem hl]
  exact c.g _ (List.getElem_mem hl)
theorem Core.ne {n : Int} {ts : List T} {us : List Nat} (c : Core n ts us) : ts ≠ [] := fun e => by have := c.z; rw [e] at this; simp at this
theorem Core.okF {n : Int} {ts : List T} {us : List Nat} (c : Core n ts us) : okF ts := fun t ht => (c.g t ht).1.okT
theorem Core.has0 {n : Int} {ts : List T} {us : List Nat} (c : Core n ts us) : Has ts 0 := by have := List.length_pos_iff.2 c.ne; unfold Has; omega
theorem GoodL.all {l : List Ext} (g : GoodL l) : partL 0 1024 l = l := partL_all fun x hx => by have := g.1 x hx; exact ⟨this, by unfold Ext.ok at this; omega, by unfold Ext.ok at this; omega⟩
theorem Core.part {n : Int} {ts : List T} {us : List Nat} (c : Core n ts us) {root : Int} (h : Has ts root) : F.part ts root 0 1024 = ((ts.getD root.toNat .nil).list, 0) := by
  have hg := (c.get h).1
  unfold F.part
  rw [if_pos h, if_pos (by unfold Blks; omega)]
  have e := T.parts_eq 0 1024 (a := ts.getD root.toNat .nil) hg.1
  rw [hg.1.all] at e
  rw [show (0 : Int) + 1024 = 1024 from rfl, e]
theorem Bop.fits.kd {n : Int} {o : Bop} (f : o.fits n) : (o.kd = 2 ∧ o.rng = (o.off, o.ln) ∧ o.data = []) ∨ (o.kd = 1 ∧ o.rng = (o.off, (o.data.length : Int))) := by
  rcases f.2 with ⟨h1, h2⟩ | ⟨h1, _⟩
  · exact .inl ⟨h1, by unfold Bop.rng; rw [if_neg (by omega), if_pos h1], List.eq_nil_of_length_eq_zero h2⟩
  · exact .inr ⟨h1, by unfold Bop.rng; rw [if_pos h1]⟩
theorem Bop.fits.dat {n : Int} {o : Bop} (f : o.fits n) : o.dat = o.data ∧ o.data.length ≤ 64 := by
  unfold Bop.dat
  rcases f.kd with ⟨h1, _, h3⟩ | ⟨h1, h2⟩
  · rw [if_pos h1, h3]; exact ⟨rfl, by simp⟩
  · rw [if_neg (by omega)]
    have := f.2
    rw [h2] at this
    dsimp only at this
    exact ⟨rfl, by omega⟩
theorem Sm.good.ext {m : Sm} {b : Nat} (g : m.good b) (hb : b ≤ 1073741824) {o : Bop} (f : o.fits m.n) (h1 : o.kd = 1) : Ext.ok ⟨o.off, o.data.length, m.us.length, m.gen⟩ := by
  have := f.1
  have h2 := f.dat.2
  rcases f.kd with ⟨h3, _⟩ | ⟨_, h4⟩
  · omega
  · rw [h4] at this
    have := g.b1; have := g.b3; have := g.g0; have := g.c.n1
    unfold Ext.ok
    dsimp only at *
    omega
theorem Sm.good.core {m : Sm} {b : Nat} (g : m.good b) (hb : b ≤ 1073741824) {o : Bop} (f : o.fits m.n) {root : Int} (h : Has m.ts root) : Core m.n (m.done root o).ts (m.done root o).us := by
  obtain ⟨gt, ft⟩ := g.c.get h
  have ge := f.1
  have hn := g.c.n1
  refine ⟨g.c.n0, hn, ?_, fun t ht => ?_⟩
  · show (m.ts ++ [_])[0]? = _
    rw [List.getElem?_append_left (List.length_pos_iff.2 g.c.ne)]; exact g.c.z
  · have hu : (m.us.length : Int) ≤ ((m.us ++ o.dat).length : Nat) := by rw [List.length_append]; omega
    rcases List.mem_append.1 ht with ht | ht
    · exact ⟨(g.c.g t ht).1, (g.c.g t ht).2.mono hu⟩
    · obtain rfl : t = m.tree root o := by simpa using ht
      unfold Sm.tree
      rcases f.kd with ⟨h1, h2, h3⟩ | ⟨h1, h2⟩
      · rw [h2] at ge
        dsimp only at ge
        rw [if_pos h1]
        obtain ⟨a, e⟩ := Tcut_good (o := o.off) (n := o.ln) gt (by unfold Blks; omega)
        refine ⟨a, ?_⟩
        rw [e]
        exact ((ft.part gt.1.1 _ _).append (ft.part gt.1.1 _ _)).mono hu
      · rw [h2] at ge
        dsimp only at ge
        rw [if_neg (by omega)]
        obtain ⟨a, e⟩ := Tput_good gt (g.ext hb f h1)
        refine ⟨a, ?_⟩
        rw [e]
        unfold putL joinL
        have hd : (m.done root o).us.length = m.us.length + o.data.length := by show (m.us ++ o.dat).length = _; rw [List.length_append, f.dat.1]
        refine Fit.join _ (fun x hx => by cases hx) (Fit.append (Fit.append ((ft.part gt.1.1 _ _).mono hu) fun x hx => ?_) ((ft.part gt.1.1 _ _).mono hu))
        obtain rfl : x = _ := by simpa using hx
        dsimp only
        rw [hd]
        omega
theorem Has.mono {ts : List T} {root : Int} (h : Has ts root) (l : List T) : Has (ts ++ l) root := by unfold Has at *; rw [List.length_append]; omega
theorem Sm.good.mono {m : Sm} {b c : Nat} (g : m.good b) (h : b ≤ c) : m.good c := by
  obtain ⟨a1, a2, a3, a4, a5, a6, a7, a8, a9, a10, a11, a12⟩ := g
  exact ⟨a1, a2, a3, a4, a5, a6, a7, a8, a9, by omega, by omega, by omega⟩
theorem Sm.good.flush {m : Sm} {b : Nat} (g : m.good b) : m.flush.good b := by
  obtain ⟨a1, a2, a3, a4, a5, a6, a7, a8, a9, a10, a11, a12⟩ := g
  exact ⟨a1, a2, a2, a4, a5, a6, fun o ho => (by cases ho), Nat.zero_le _, a9, by simp only [Sm.flush, List.length_nil]; omega, by simp only [Sm.flush, List.length_nil]; omega, a12⟩
theorem lookS_mem : ∀ {l : List (Int × Int)} {n r : Int}, lookS l n = some r → (n, r) ∈ l
  | [], _, _, h => by cases h
  | p :: l, n, r, h => by
    unfold lookS at h
    split at h
    · rename_i e; cases h; rw [e]; simp
    · exact List.mem_cons_of_mem _ (lookS_mem h)
theorem lookS_none : ∀ {l : List (Int × Int)} {n : Int}, lookS l n = none ↔ n ∉ l.map Prod.fst
  | [], _ => by simp [lookS]
  | p :: l, n => by
    unfold lookS
    split
    · rename_i e; simp [e]
    · rename_i e; rw [lookS_none]; simp [e]
theorem delS_sub : ∀ (l : List (Int × Int)) (n : Int), (delS l n).Sublist l
  | [], _ => .slnil
  | p :: l, n => by
    unfold delS
    split
    · exact List.sublist_cons_self _ _
    · exact (delS_sub l n).cons_cons _
theorem find_has {m : Sm} {b : Nat} (g : m.good b) {x : Int} (h : (m.find x).2 = 0) : Has m.ts (m.find x).1 := by
  unfold Sm.find at *
  split at h
  · rename_i r hr; exact (g.sn _ (lookS_mem hr)).1
  · cases h
/-- An op more, of those that are open: one open op less. -/
theorem Sm.good.go {m : Sm} {b : Nat} (g : m.good b) (hb : b ≤ 1073741824) {o : Bop} (f : o.fits m.n) {k : Nat} (h1 : m.us.length + o.data.length + 64 * k ≤ 128 * b) (h2 : m.ts.length + 1 + k ≤ 1 + 2 * b) (l : List Bop) (hl : l.length = k) (hk : k ≤ 256) (ho : ∀ o ∈ l, o.fits m.n) : ({ m.go o with opn := l } : Sm).good b := by
  have c := g.core hb f g.now
  refine ⟨c, ?_, g.sure.mono _, fun p hp => ⟨(g.sn p hp).1.mono _, (g.sn p hp).2⟩, g.nd, g.sl, ho, by show l.length ≤ 256; omega, g.g0, ?_, ?_, g.b3⟩
  · show Has (m.ts ++ [_]) (m.ts.length : Int); unfold Has; rw [List.length_append]; simp only [List.length_cons, List.length_nil]; omega
  · show (m.us ++ o.dat).length + 64 * l.length ≤ _; rw [List.length_append, f.dat.1]; omega
  · show (m.ts ++ [_]).length + l.length ≤ _; rw [List.length_append]; simp; omega
theorem Sm.good.doOp {m : Sm} {b : Nat} (g : m.good b) (hb : b < 1073741824) (o : Bop) : (m.doOp o).2.good (b + 1) := by
  unfold Sm.doOp
  split
  · exact g.mono (by omega)
  split
  · exact g.mono (by omega)
  split
  · exact g.mono (by omega)
  rename_i f _ h3
  have f := Decidable.not_not.1 f
  have := f.dat.2; have := g.b1; have := g.b2
  exact (g.mono (Nat.le_succ b)).go (by omega) f (k := m.opn.length + 1) (by omega) (by omega) _ (by simp) (by omega) fun x hx => by
    rcases List.mem_append.1 hx with hx | hx
    · exact g.op x hx
    · obtain rfl : x = o := by simpa using hx
      exact f
theorem Sm.replay_good {b : Nat} (hb : b ≤ 1073741824) : ∀ (os : List Bop) (ks : List Bool) (m : Sm), m.opn = os → m.good b → ({ m.replay os ks with opn := [] } : Sm).good b
  | [], ks, m, e, g => by
    unfold Sm.replay
    cases m; cases e; exact g
  | o :: os, [], m, e, g => by
    unfold Sm.replay
    obtain ⟨a1, a2, a3, a4, a5, a6, a7, a8, a9, a10, a11, a12⟩ := g
    exact ⟨a1, a2, a3, a4, a5, a6, fun o ho => (by cases ho), Nat.zero_le _, a9, by dsimp only [List.length_nil]; omega, by dsimp only [List.length_nil]; omega, a12⟩
  | o :: os, k :: ks, m, e, g => by
    have hop : ∀ x ∈ os, x.fits m.n := fun x hx => g.op x (by rw [e]; simp [hx])
    have h1 := g.b1; have h2 := g.b2; have h3 := g.ol
    rw [e, List.length_cons] at h1 h2 h3
    have frame : ∀ (m' : Sm) (l : List Bop), ({ m'.replay l ks with opn := [] } : Sm) = { ({ m' with opn := l } : Sm).replay l ks with opn := [] } := by
      have key : ∀ (os : List Bop) (ks : List Bool) (m' : Sm) (l : List Bop), ({ m'.replay os ks with opn := [] } : Sm) = { ({ m' with opn := l } : Sm).replay os ks with opn := [] } := by
        intro os
        induction os with
        | nil => intro ks m' l; unfold Sm.replay; rfl
        | cons o os ih =>
          intro ks m' l
          cases ks with
          | nil => unfold Sm.replay; rfl
          | cons k ks =>
            unfold Sm.replay
            cases k with
            | true => exact ih ks (m'.go o) l
            | false => exact ih ks m' l
      intro m' l
      exact key l ks m' l
    unfold Sm.replay
    rw [frame]
    refine Sm.replay_good hb os ks _ rfl ?_
    cases k with
    | true =>
      have f := g.op o (by rw [e]; simp)
      have := f.dat.2
      exact g.go hb f (k := os.length) (by omega) (by omega) os rfl (by omega) hop
    | false =>
      obtain ⟨a1, a2, a3, a4, a5, a6, a7, a8, a9, a10, a11, a12⟩ := g
      rw [if_neg Bool.false_ne_true]
      exact ⟨a1, a2, a3, a4, a5, a6, hop, by dsimp only; omega, a9, by dsimp only; omega, by dsimp only; omega, a12⟩
theorem Sm.good.crash {m : Sm} {b : Nat} (g : m.good b) (hb : b ≤ 1073741824) (keep : List Bool) : (m.crash keep).good b := by
  have g1 : ({ m with now := m.sure } : Sm).good b := by
    obtain ⟨a1, a2, a3, a4, a5, a6, a7, a8, a9, a10, a11, a12⟩ := g
    exact ⟨a1, a3, a3, a4, a5, a6, a7, a8, a9, a10, a11, a12⟩
  have g2 := (Sm.replay_good hb m.opn keep { m with now := m.sure } rfl g1).flush
  obtain ⟨a1, a2, a3, a4, a5, a6, a7, a8, a9, a10, a11, a12⟩ := g2
  exact ⟨a1, a2, a3, a4, a5, a6, a7, a8, a9, a10, a11, a12⟩
theorem Sm.good.snap {m : Sm} {b : Nat} (g : m.good b) {x : Int} (hx : inI x) : (m.snap x).2.good (b + 1) := by
  unfold Sm.snap
  split
  · exact g.mono (by omega)
  split
  · exact g.mono (by omega)
  split
  · exact g.mono (by omega)
  rename_i h1 h2 h3
  have hn : lookS m.snaps x = none := by
    unfold Sm.find at h2
    split at h2
    · exact absurd rfl h2
    · assumption
  obtain ⟨a1, a2, a3, a4, a5, a6, a7, a8, a9, a10, a11, a12⟩ := g.flush
  refine ⟨a1, a2, a3, fun p hp => ?_, ?_, ?_, a7, a8, by dsimp only; exact Int.le_trans g.g0 (by omega), by simp only [Sm.flush, List.length_nil] at a10 ⊢; omega, by simp only [Sm.flush, List.length_nil] at a11 ⊢; omega, by dsimp only; have := g.b3; omega⟩
  · rcases List.mem_append.1 hp with hp | hp
    · exact a4 p hp
    · obtain rfl : p = (x, m.now) := by simpa using hp
      exact ⟨g.now, by omega, hx⟩
  · show ((m.snaps ++ [(x, m.now)]).map Prod.fst).Nodup
    rw [List.map_append, List.nodup_append]
    refine ⟨g.nd, by simp, fun a ha b' hb' e => ?_⟩
    obtain rfl : b' = x := by simpa using hb'
    exact lookS_none.1 hn (e ▸ ha)
  · show (m.snaps ++ [(x, m.now)]).length ≤ 32
    rw [List.length_append]; simp; omega
theorem Sm.good.delete {m : Sm} {b : Nat} (g : m.good b) (x : Int) : (m.delete x).2.good b := by
  unfold Sm.delete
  split
  · exact g
  have s := delS_sub m.snaps x
  obtain ⟨a1, a2, a3, a4, a5, a6, a7, a8, a9, a10, a11, a12⟩ := g
  exact ⟨a1, a2, a3, fun p hp => a4 p (s.subset hp), a5.sublist (s.map _), Nat.le_trans s.length_le a6, a7, a8, a9, a10, a11, a12⟩
theorem Sm.good.rollback {m : Sm} {b : Nat} (g : m.good b) (x : Int) : (m.rollback x).2.good b := by
  unfold Sm.rollback
  dsimp only
  split
  · exact g
  rename_i h
  have hh := find_has g (Decidable.not_not.1 fun e => h (.inl e))
  obtain ⟨a1, a2, a3, a4, a5, a6, a7, a8, a9, a10, a11, a12⟩ := g
  exact ⟨a1, hh, hh, a4, a5, a6, fun o ho => (by cases ho), Nat.zero_le _, a9, by dsimp only [List.length_nil]; omega, by dsimp only [List.length_nil]; omega, a12⟩
theorem Sm.good.act {m : Sm} {b : Nat} (g : m.good b) (hb : b < 1073741824) {a : SAct} (hx : inI a.id) : (m.act a).2.good (b + 1) := by
  unfold Sm.act
  split
  · exact g.doOp hb a.op
  split
  · exact g.flush.mono (by omega)
  split
  · obtain ⟨a1, a2, a3, a4, a5, a6, a7, a8, a9, a10, a11, a12⟩ := g
    exact ⟨a1, a2, a3, a4, a5, a6, a7, a8, a9, by dsimp only; omega, by dsimp only; omega, by dsimp only; omega⟩
  split
  · exact g.snap hx
  split
  · exact (g.delete _).mono (by omega)
  split
  · exact (g.rollback _).mono (by omega)
  split
  · exact (g.crash (by omega) _).mono (by omega)
  · exact g.mono (by omega)
def Sm.new (n : Int) : Sm := ⟨n, [.nil], [], 0, 0, 0, [], [], false⟩
theorem Sm.new_good {n : Int} (h0 : 0 ≤ n) (h1 : n ≤ 1024) : (Sm.new n).good 0 := by
  refine ⟨⟨h0, h1, rfl, fun t ht => ?_⟩, by simp [Sm.new, Has], by simp [Sm.new, Has], fun p hp => (by cases hp), .nil, Nat.zero_le _, fun p hp => (by cases hp), Nat.zero_le _, Int.le_refl _, by simp [Sm.new], by simp [Sm.new], by simp [Sm.new]⟩
  obtain rfl : t = .nil := by simpa [Sm.new] using ht
  exact ⟨GT.nil, fun x hx => by cases hx⟩

/-- What is read of a volume. -/
def readL (v : List Nat) (off n : Int) : List Nat × Int := if 1024 < v.length then ([], 6) else if ¬ (0 ≤ off ∧ 0 ≤ n ∧ n ≤ v.length ∧ off ≤ v.length - n) then ([], 1) else ((v.drop off.toNat).take n.toNat, 0)
theorem lst_words {h h' : AHeap} {xs : List Nat} {v : Value} (hl : Lst rW h.next (fun _ => False) h' xs v) : Words (h.next ≤ ·) h' xs v := hl.isSl (fun _ e _ => e.elim) (fun _ e => e)
section
variable {own own' own'' : Nat → Nat} {h h' h'' : AHeap} {S : Nat → Prop} {m : Sm} {id : Nat} {v : Value} {b : Nat}
theorem bread_ok {ws : List Nat} (hv : Words S h ws v) {off n : Int} (h1 : inJ off) (h2 : inJ n) : Does Tryz.prog 91 #[v, .int .i64 off, .int .i64 n] h
    (fun u h' => ∃ w, u = .tuple #[w, .int .i64 (readL ws off n).2] ∧ Words (h.next ≤ ·) h' (readL ws off n).1 w ∧ h.quiet h') := by
  obtain ⟨a, c, rfl⟩ := hv.shape
  have hl := hv.len
  unfold readL
  refine spec_go mixed Tryz.func91 rfl Tryz.results91 (n := Tryz.f91.ntmps) (by kernel_rfl) (by simp) ?_
  simp only [go_sem, simprocAttr]
  by_cases c1 : 1024 < ws.length
  · have c1' : (1024 : Int) < ws.length := by omega
    simp only [go_sem, simprocAttr, c1', c1, decide_true, if_true]
    exact ⟨_, rfl, .nil _ _ _⟩
  · have c1' : ¬ (1024 : Int) < ws.length := by omega
    simp only [go_sem, simprocAttr, c1', c1, decide_false, if_false]
    refine cl_spec (lies_ok (by unfold inJ; omega) h1 h2) (fun _ _ _ hc => absurd hc (by decide +kernel)) ?_
    rintro u k ⟨rfl, rfl⟩
    by_cases c2 : 0 ≤ off ∧ 0 ≤ n ∧ n ≤ ws.length ∧ off ≤ ws.length - n
    · have e1 : IntKind.i64.wrap (off + n) = off + n := by rw [wi64] <;> omega
      obtain ⟨a', cap', es, hs⟩ := hv.sliceI 1 rfl (l := off) (m := off + n) c2.1 (by omega) (by omega)
      simp only [go_sem, simprocAttr, decide_eq_true c2, e1, if_neg (Decidable.not_not.2 c2), es]
      have en : (off + n).toNat - off.toNat = n.toNat := by omega
      rw [en] at hs ⊢
      refine cl_spec (cloneW_ok hs (by have := hs.len; omega)) (fun _ _ _ hc => absurd hc (by decide +kernel)) ?_
      rintro u k1 ⟨q1, l1⟩
      obtain ⟨au, cu, rfl, _⟩ := l1.len
      simp only [go_sem, simprocAttr]
      exact ⟨_, rfl, lst_words l1, q1⟩
    · simp only [go_sem, simprocAttr, decide_eq_false c2, if_pos c2]
      exact ⟨_, rfl, .nil _ _ _⟩
theorem wv_words {vs : List Nat} {j : Nat} {n : Nat} (hn : vs.length = n) (hl : n ≤ 1024) (hb : ∀ x ∈ vs, (x : Int) ≤ IntKind.u64.max) (hg : h'.get j = .cells (wv vs) .rw) (hj : S j) : Words S h' vs (.slice (some ⟨j, 0, none⟩) n n) :=
  .fresh (css := vs.map fun n => [.int .u64 (n : Nat)]) (nat_all2 hb) hn (by omega) hj hg (by rw [nat_flat]; rfl)
theorem kput_vals {us : List Nat} (hu : ∀ x ∈ us, (x : Int) ≤ IntKind.u64.max) {x : Ext} {v : List Nat} (hv : ∀ x ∈ v, (x : Int) ≤ IntKind.u64.max) (k : Nat) : ∀ y ∈ kput us x v k, (y : Int) ≤ IntKind.u64.max := by
  unfold kput
  split
  · rename_i h
    intro y hy
    rcases List.mem_or_eq_of_mem_set hy with hy | rfl
    · exact hv y hy
    · rw [List.getD, List.getElem?_eq_getElem h]; exact hu _ (List.getElem_mem h)
  · exact hv
theorem viewL_vals {us : List Nat} (hu : ∀ x ∈ us, (x : Int) ≤ IntKind.u64.max) (n : Nat) (l : List Ext) : ∀ y ∈ viewL us n l, (y : Int) ≤ IntKind.u64.max := by
  have ks : ∀ (x : Ext) (l : List Nat) (v : List Nat), (∀ x ∈ v, (x : Int) ≤ IntKind.u64.max) → ∀ y ∈ l.foldl (kput us x) v, (y : Int) ≤ IntKind.u64.max := by
    intro x l
    induction l with
    | nil => intro v hv; exact hv
    | cons k l ih => intro v hv; exact ih _ (kput_vals hu hv k)
  have xs : ∀ (l : List Ext) (v : List Nat), (∀ x ∈ v, (x : Int) ≤ IntKind.u64.max) → ∀ y ∈ l.foldl (xput us) v, (y : Int) ≤ IntKind.u64.max := by
    intro l
    induction l with
    | nil => intro v hv; exact hv
    | cons x l ih => intro v hv; exact ih _ (ks x _ v hv)
  refine xs l _ fun y hy => ?_
  obtain rfl := List.eq_of_mem_replicate hy
  decide
theorem viewL_len (us : List Nat) (n : Nat) (l : List Ext) : (viewL us n l).length = n := by
  have ks : ∀ (x : Ext) (l : List Nat) (v : List Nat), (l.foldl (kput us x) v).length = v.length := by
    intro x l
    induction l with
    | nil => intro v; rfl
    | cons k l ih => intro v; rw [List.foldl_cons, ih, kput_len]
  have xs : ∀ (l : List Ext) (v : List Nat), (l.foldl (xput us) v).length = v.length := by
    intro l
    induction l with
    | nil => intro v; rfl
    | cons x l ih => intro v; rw [List.foldl_cons, ih]; exact ks x _ v
  exact (xs l _).trans (List.length_replicate ..)
theorem Sm.vol_len (m : Sm) (r : Int) : (m.vol r).length = m.n.toNat := viewL_len _ _ _
theorem List_ok {fid : Nat} {ts : List T} (ha : FoAt own h fid ts) (hp : ts ≠ []) (hok : okF ts) {root : Int} : Does Tryz.prog 128 #[.pointer (some ⟨fid, 0, none⟩), .int .i64 root] h
    (fun u h' => ∃ v, u = .tuple #[v, .int .i64 (F.part ts root 0 1024).2] ∧ OwnL rExt (h.next ≤ ·) h' (F.part ts root 0 1024).1 v ∧ h.quiet h') := by
  refine spec_go mixed Tryz.func128 rfl Tryz.results128 (n := Tryz.f128.ntmps) (by kernel_rfl) (by simp) ?_
  simp only [go_sem, simprocAttr]
  refine cl_spec (partF_ok ha hp hok (by unfold inI; omega) (by unfold inI; omega)) (fun _ _ _ hc => absurd hc (by decide +kernel)) ?_
  rintro u k ⟨v, rfl, o, q⟩
  obtain ⟨av, cv, rfl⟩ := o.sl.shape
  simp only [go_sem, simprocAttr]
  exact ⟨_, rfl, o, q⟩
theorem svolume_ok (a : ShAt own h id m) (g : m.good b) {root : Int} (hr : Has m.ts root) : Does Tryz.prog 92 #[.pointer (some ⟨id, 0, none⟩), .int .i64 root] h
    (fun u h' => Words (h.next ≤ ·) h' (m.vol root) u ∧ h.quiet h') := by
  have hl := a.lt
  obtain ⟨ho, fid, uv, ov, mid, rv, hg, c⟩ := a
  have hun := c.un
  obtain ⟨au, cu, rfl⟩ := c.un.sl.shape
  unfold shC at hg
  refine spec_go mixed Tryz.func92 rfl Tryz.results92 (n := Tryz.f92.ntmps) (by kernel_rfl) (by simp) ?_
  simp only [go_sem, simprocAttr, hg]
  refine cl_spec (List_ok c.fo g.c.ne g.c.okF) (fun _ _ _ hc => absurd hc (by decide +kernel)) ?_
  rintro u k ⟨w, rfl, o, q⟩
  rw [g.c.part hr] at o
  have hg1 := (q.2 _ hl).trans hg
  obtain ⟨gt, ft⟩ := g.c.get hr
  obtain ⟨aw, cw, rfl⟩ := o.sl.shape
  simp only [go_sem, simprocAttr, hg1]
  refine cl_spec (View_ok (n := m.n) o.slz (hun.slz.quiet q) gt.1 ⟨g.c.n0, g.c.n1⟩ fun x hx => (ft x hx).1) (fun _ _ _ hc => absurd hc (by decide +kernel)) ?_
  rintro u k1 ⟨j, rfl, hj, gj, q1⟩
  simp only [go_sem, simprocAttr]
  refine ⟨?_, q.trans q1⟩
  have e : m.vol root = viewL m.us m.n.toNat (m.ts.getD root.toNat .nil).list := by unfold Sm.vol; rw [g.c.part hr]
  rw [e]
  exact wv_words (viewL_len _ _ _) (by have := g.c.n1; omega) (viewL_vals (fun x hx => hun.slz.vals rfl x hx) _ _) gj (Nat.le_trans q.1 hj)
theorem sRead_ok (a : ShAt own h id m) (g : m.good b) {off n : Int} (h1 : inJ off) (h2 : inJ n) : Does Tryz.prog 42 #[.pointer (some ⟨id, 0, none⟩), .int .i64 off, .int .i64 n] h
    (fun u h' => ∃ w, u = .tuple #[w, .int .i64 (readL (m.vol m.now) off n).2] ∧ Words (h.next ≤ ·) h' (readL (m.vol m.now) off n).1 w ∧ h.quiet h') := by
  refine spec_go mixed Tryz.func42 rfl Tryz.results42 (n := Tryz.f42.ntmps) (by kernel_rfl) (by simp) ?_
  simp only [go_sem, simprocAttr]
  refine cl_spec (sok_ok a) (fun _ _ _ hc => absurd hc (by decide +kernel)) ?_
  rintro u k ⟨rfl, rfl⟩
  have a0 := a
  obtain ⟨ho, fid, uv, ov, mid, rv, hg, c⟩ := a
  unfold shC at hg
  simp only [go_sem, simprocAttr, hg]
  refine cl_spec (svolume_ok a0 g g.now) (fun _ _ _ hc => absurd hc (by decide +kernel)) ?_
  rintro u k1 ⟨w1, q1⟩
  obtain ⟨aw, cw, rfl⟩ := w1.shape
  simp only [go_sem, simprocAttr]
  refine cl_spec (bread_ok w1 h1 h2) (fun _ _ _ hc => absurd hc (by decide +kernel)) ?_
  rintro u k2 ⟨w, rfl, w2, q2⟩
  obtain ⟨aw2, cw2, rfl⟩ := w2.shape
  simp only [go_sem, simprocAttr]
  exact ⟨_, rfl, w2.weaken fun j hj => Nat.le_trans q1.1 hj, q1.trans q2⟩
theorem sdone_ok (a : ShAt own h id m) (g : m.good b) (hb : b ≤ 1073741824) {root : Int} (hr : Has m.ts root) {o : Bop} (f : o.fits m.n) (hi : o.inI) (hv : Words S h o.data v) (hS : ∀ j, S j → own j ≠ 1 ∧ own j ≠ 6 ∧ own j ≠ 7) : Does Tryz.prog 100 #[.pointer (some ⟨id, 0, none⟩), .int .i64 root, .agg (o.cs v).toArray] h
    (fun u h' => u = .int .i64 m.ts.length ∧ ∃ own', ShAt own' h' id (m.done root o) ∧ Ks (fun t => t = 1 ∨ t = 6 ∨ t = 7) own h own' h') := by
  obtain ⟨av, cv, rfl⟩ := hv.shape
  refine spec_go mixed Tryz.func100 rfl Tryz.results100 (n := Tryz.f100.ntmps) (by kernel_rfl) (by simp) ?_
  simp only [go_sem, simprocAttr, bo_len, bo_one, bo_take, bo_put]
  have q0 : h.quiet (h.push (.cells (o.cs (.slice av o.data.length cv)) .rw)) := .push _ _
  have g0 : (h.push (.cells (o.cs (.slice av o.data.length cv)) .rw)).get h.next = .cells (o.cs (.slice av o.data.length cv)) .rw := by simp
  generalize h.push (.cells (o.cs (.slice av o.data.length cv)) .rw) = k at q0 g0
  refine cl_spec (Range_ok (hv.quiet q0)) (fun _ _ _ hc => absurd hc (by decide +kernel)) ?_
  rintro u k1 ⟨rfl, q1⟩
  have l0 := AHeap.lt_of_alive k (i := h.next) (by rw [g0]; simp)
  have g1 := (q1.2 _ l0).trans g0
  have Q := q0.trans q1
  have hl := a.lt
  obtain ⟨ho, fid, uv, ov, mid, rv, hg, c⟩ := a
  have c1 := c.ks (T := fun _ => False) (.quiet Q 0) (fun _ e => e.elim)
  have kq : Ks (fun t => t = 1 ∨ t = 6 ∨ t = 7) own h (bump own h 0) k1 := .quiet Q 0
  have hg1 := (Q.2 _ hl).trans hg
  have hl1 : id < k1.next := Nat.lt_of_lt_of_le hl Q.1
  have ho1 : bump own h 0 id = 6 := (bump_lt hl).trans ho
  have hb2 : m.ts.length ≤ 1099511627776 := by have := g.b2; omega
  obtain ⟨au, cu, rfl⟩ := c1.un.sl.shape
  unfold shC at hg1
  have ge := f.1
  have hn := g.c.n1
  rcases f.kd with ⟨h1, h2, h3⟩ | ⟨h1, h2⟩
  · rw [h2] at ge ⊢
    dsimp only at ge
    have hcut : F.cut m.ts root o.off o.ln = (((m.ts.length : Int), 0), m.ts ++ [m.tree root o]) := by
      unfold F.cut Sm.tree
      rw [if_pos hr, if_pos (by unfold Blks; omega), if_pos h1]
    simp only [go_sem, simprocAttr, g1, bo_0, h1, hg1]
    refine cl_spec (cutF_ok c1.fo g.c.ne g.c.okF hb2 (o := o.off) (n := o.ln) (by unfold inI; omega) (by unfold inI; omega)) (fun _ _ _ hc => absurd hc (by decide +kernel)) ?_
    rw [hcut]
    rintro u k2 ⟨rfl, ow2, fo2, kp2⟩
    simp only [go_sem, simprocAttr]
    have kk : Ks (· = 1) (bump own h 0) k1 ow2 k2 := .kp kp2 rfl
    refine ⟨ow2, ⟨(kk.2 id hl1).1.trans ho1, fid, _, ov, mid, rv, ((kk.2 id hl1).2 (by rw [ho1]; decide)).trans hg1, fo2, ?_, c1.op.ks kk (by decide) (by decide), c1.mp.ks kk (by decide), c1.od.ks kk (by decide)⟩, kq.trans (kk.weaken fun t e => .inl e)⟩
    show OwnL rW (tg ow2 7) k2 (m.us ++ o.dat) _
    unfold Bop.dat
    rw [if_pos h1, List.append_nil]
    exact c1.un.mono kk.1 (kk.tg (by decide))
  · rw [h2] at ge ⊢
    dsimp only at ge
    have h1' : ¬ o.kd = 2 := by omega
    have hx := g.ext hb f h1
    simp only [go_sem, simprocAttr, g1, bo_0, h1, hg1]
    have hput : F.put m.ts root ⟨o.off, o.data.length, m.us.length, m.gen⟩ = (((m.ts.length : Int), 0), m.ts ++ [m.tree root o]) := by
      unfold F.put Sm.tree
      rw [if_pos hr, if_pos hx, if_neg h1']
    refine cl_spec (putF_ok c1.fo g.c.ne g.c.okF hb2 (x := ⟨o.off, o.data.length, m.us.length, m.gen⟩) hx.inI) (fun _ _ _ hc => absurd hc (by decide +kernel)) ?_
    rw [hput]
    rintro u k2 ⟨rfl, ow2, fo2, kp2⟩
    have kk : Ks (· = 1) (bump own h 0) k1 ow2 k2 := .kp kp2 rfl
    have un2 := c1.un.mono kk.1 (kk.tg (s := 7) (by decide))
    have hg2 := ((kk.2 id hl1).2 (by rw [ho1]; decide)).trans hg1
    have hl2 : id < k2.next := Nat.lt_of_lt_of_le hl1 kk.1
    have ho2 := (kk.2 id hl1).1.trans ho1
    have l1 := Nat.lt_of_lt_of_le l0 q1.1
    have g2 := ((kk.2 h.next l1).2 (by rw [bump_ge (Nat.le_refl _)]; decide)).trans g1
    have hv2 : Words S k2 o.data (.slice av o.data.length cv) := (hv.quiet Q).mono fun j hj hl => ⟨hj, (kk.2 j hl).2 (by
      by_cases hjl : j < h.next
      · rw [bump_lt hjl]; exact (hS j hj).1
      · rw [bump_ge (by omega)]; decide)⟩
    obtain ⟨css, e1, ha⟩ := hv2.acells 1 rfl
    simp only [go_sem, simprocAttr, g2, bo_3, hg2, e1, ha.ones]
    have bu := g.b1
    have bd := f.dat
    obtain ⟨v', k3, e3, l3, f3, nb⟩ := un2.1.app 1 rfl (bytes := 8) (n := o.data.length) (ys := o.data) (css' := o.data.map fun n => [.int .u64 (n : Nat)]) (nat_all2 fun n hn => hv2.vals rfl n hn) rfl (by omega) (by omega) (Nat.zero_le _)
    rw [nat_flat, ← (nat_cells ha).1] at e3
    have k23 : Ks (· = 7) ow2 k2 (bump ow2 k2 7) k3 := Ks.fw (T := (· = 7)) (own := ow2) f3 (fun j _ e => un2.2 j e) 7
    have hu3 : OwnL rW (tg (bump ow2 k2 7) 7) k3 (m.us ++ o.data) v' := ⟨l3, fun j hj => by
      rcases nb with nb | ⟨ob, nb, hge⟩
      · rw [nb] at hj; exact (bump_lt (un2.lt hj)).trans (un2.2 j hj)
      · rw [nb] at hj; cases hj; exact bump_ge hge⟩
    obtain ⟨a3, c3, rfl⟩ := hu3.sl.shape
    have hg3 := ((k23.2 id hl2).2 (by rw [ho2]; decide)).trans hg2
    have ho3 := (k23.2 id hl2).1.trans ho2
    have hl3 : id < k3.next := Nat.lt_of_lt_of_le hl2 k23.1
    simp only [go_sem, simprocAttr, e3, hg3]
    have k34 : Ks (· = 6) (bump ow2 k2 7) k3 (bump ow2 k2 7) (k3.set id (.cells (shC (m.done root o) fid (.slice a3 (m.us ++ o.data).length c3) ov mid rv) .rw)) := .set (T := (· = 6)) ho3 _
    refine ⟨bump ow2 k2 7, ⟨ho3, fid, _, ov, mid, rv, AHeap.get_set_self _ _ hl3, ?_⟩, kq.trans ((kk.weaken fun t e => .inl e).trans ((k23.weaken fun t e => .inr (.inr e)).trans (k34.weaken fun t e => .inr (.inl e))))⟩
    refine ⟨(fo2.ks k23 (by decide) (by decide)).ks k34 (by decide) (by decide), ?_, ((c1.op.ks kk (by decide) (by decide)).ks k23 (by decide) (by decide)).ks k34 (by decide) (by decide), ((c1.mp.ks kk (by decide)).ks k23 (by decide)).ks k34 (by decide), ((c1.od.ks kk (by decide)).ks k23 (by decide)).ks k34 (by decide)⟩
    show OwnL rW _ _ (m.us ++ o.dat) _
    rw [bd.1]
    exact hu3.mono k34.1 (k34.tg (by decide))
end

theorem bo_set3 (m : Bop) (v w : Value) : (m.cs v).set 3 w = m.cs w := rfl
theorem Sm.good.more {m : Sm} {b : Nat} (g : m.good b) {o : Bop} (f : o.fits m.n) (hl : m.opn.length < 256) : ({ m with opn := m.opn ++ [o] } : Sm).good (b + 1) := by
  obtain ⟨a1, a2, a3, a4, a5, a6, a7, a8, a9, a10, a11, a12⟩ := g
  refine ⟨a1, a2, a3, a4, a5, a6, fun x hx => ?_, ?_, a9, ?_, ?_, by dsimp only; omega⟩
  · rcases List.mem_append.1 hx with hx | hx
    · exact a7 x hx
    · obtain rfl : x = o := by simpa using hx
      exact f
  · simp only [List.length_append, List.length_cons, List.length_nil]; omega
  · simp only [List.length_append, List.length_cons, List.length_nil]; omega
  · simp only [List.length_append, List.length_cons, List.length_nil]; omega
section
variable {own own' own'' : Nat → Nat} {h h' h'' : AHeap} {S : Nat → Prop} {m : Sm} {id : Nat} {v : Value} {b : Nat}
theorem sDo_ok (a : ShAt own h id m) (g : m.good b) (hb : b < 1073741824) {o : Bop} (hi : o.inI) (hv : Words S h o.data v) : Does Tryz.prog 56 #[.pointer (some ⟨id, 0, none⟩), .agg (o.cs v).toArray] h
    (fun u h' => u = .int .i64 (m.doOp o).1 ∧ ∃ own', ShAt own' h' id (m.doOp o).2 ∧ Ks shT own h own' h') := by
  obtain ⟨av, cv, rfl⟩ := hv.shape
  have hN := g.c.n1
  have hN0 := g.c.n0
  unfold Sm.doOp
  refine spec_go mixed Tryz.func56 rfl Tryz.results56 (n := Tryz.f56.ntmps) (by kernel_rfl) (by simp) ?_
  simp only [go_sem, simprocAttr, bo_len, bo_one, bo_take, bo_put]
  have q0 : h.quiet (h.push (.cells (o.cs (.slice av o.data.length cv)) .rw)) := .push _ _
  have g0 : (h.push (.cells (o.cs (.slice av o.data.length cv)) .rw)).get h.next = .cells (o.cs (.slice av o.data.length cv)) .rw := by simp
  generalize h.push (.cells (o.cs (.slice av o.data.length cv)) .rw) = k at q0 g0
  have l0 := AHeap.lt_of_alive k (i := h.next) (by rw [g0]; simp)
  have ak := a.quiet q0 9
  refine cl_spec (sok_ok ak) (fun _ _ _ hc => absurd hc (by decide +kernel)) ?_
  rintro u k' ⟨rfl, rfl⟩
  have hl := a.lt
  obtain ⟨ho, fid, uv, ov, mid, rv, hg, c⟩ := a
  unfold shC at hg
  have hgk := (q0.2 _ hl).trans hg
  obtain ⟨ao, co, rfl⟩ := c.op.slz.shape
  simp only [go_sem, simprocAttr, hgk, g0, bo_len, bo_take]
  refine cl_spec (bright_ok hi (n := m.n) (by unfold inJ; omega) (hv.quiet q0)) (fun _ _ _ hc => absurd hc (by decide +kernel)) ?_
  rintro u k1 ⟨rfl, q1⟩
  have Q1 := q0.trans q1
  have hg1 := (Q1.2 _ hl).trans hg
  have g1 := (q1.2 _ l0).trans g0
  have l1 := Nat.lt_of_lt_of_le l0 q1.1
  by_cases hf : o.fits m.n
  · rw [if_neg (Decidable.not_not.2 hf)]
    cases hz : m.frozen with
    | true =>
      rw [hz] at hg1
      simp only [go_sem, simprocAttr, decide_eq_true hf, hg1]
      refine ⟨bump own h 9, ?_, .quiet Q1 9⟩
      exact ShAt.quiet ⟨ho, fid, _, _, mid, rv, hg, c⟩ Q1 9
    | false =>
      rw [hz] at hg1
      simp only [go_sem, simprocAttr, decide_eq_true hf, hg1]
      by_cases hc : 256 ≤ m.opn.length
      · have hc' : (256 : Int) ≤ m.opn.length := by omega
        simp only [go_sem, simprocAttr, hc', hc, decide_true]
        refine ⟨bump own h 9, ?_, .quiet Q1 9⟩
        exact ShAt.quiet ⟨ho, fid, _, _, mid, rv, hg, c⟩ Q1 9
      · have hc' : ¬ (256 : Int) ≤ m.opn.length := by omega
        simp only [go_sem, simprocAttr, hc', hc, decide_false, g1, bo_3]
        have bd := hf.dat
        refine cl_spec (cloneW_ok (hv.quiet Q1) (by omega)) (fun _ _ _ hc => absurd hc (by decide +kernel)) ?_
        rintro u k2 ⟨q2, l2⟩
        have g2 := (q2.2 _ l1).trans g1
        have lb2 := Nat.lt_of_lt_of_le l1 q2.1
        have Q2 := Q1.trans q2
        have w2 := lst_words l2
        obtain ⟨a2, c2, rfl, _⟩ := l2.len
        simp only [go_sem, simprocAttr, g2, bo_set3, bo_len]
        obtain ⟨k3, hk3⟩ : ∃ k3, k2.set h.next (.cells (o.cs (.slice a2 o.data.length c2)) .rw) = k3 := ⟨_, rfl⟩
        have Q3 : h.quiet k3 := by rw [← hk3]; exact Q2.set' (Nat.le_refl _) _
        have g3 : k3.get h.next = .cells (o.cs (.slice a2 o.data.length c2)) .rw := by rw [← hk3]; exact AHeap.get_set_self _ _ lb2
        have lb3 : h.next < k3.next := by rw [← hk3]; simpa using lb2
        have w3 : Words (fun j => h.next ≤ j) k3 o.data (.slice a2 o.data.length c2) := by
          rw [← hk3]
          refine w2.mono fun j hj _ => ⟨by have := q0.1; have := q1.1; omega, AHeap.get_set_ne _ _ (by omega)⟩
        rw [hk3]
        have hg3 := (Q3.2 _ hl).trans hg
        rw [hz] at hg3
        simp only [go_sem, simprocAttr, hg3, g3, bo_put, bo_len, bo_take, bo_one]
        -- one open op more
        obtain ⟨k4, hk4⟩ : ∃ k4, k3.push (.cells (o.cs (.slice a2 o.data.length c2)) .rw) = k4 := ⟨_, rfl⟩
        have q4 : k3.quiet k4 := by rw [← hk4]; exact .push _ _
        rw [hk4]
        clear hk4 hk3
        obtain ⟨ow4, how4⟩ : ∃ ow4, bump own h 9 = ow4 := ⟨_, rfl⟩
        have ks4 : Ks (fun _ => False) own h ow4 k4 := by rw [← how4]; exact .quiet (Q3.trans q4) 9
        have hge4 : ∀ j, h.next ≤ j → ow4 j = 9 := fun j hj => by rw [← how4]; exact bump_ge hj
        clear how4
        have op4 := c.op.ks ks4 (fun e => e) (fun e => e)
        have c4 := c.ks ks4 (fun _ e => e.elim)
        have hl4 : id < k4.next := Nat.lt_of_lt_of_le hl ks4.1
        have ho4 := (ks4.2 id hl).1.trans ho
        have hg4 := (q4.2 _ (Nat.lt_of_lt_of_le hl Q3.1)).trans hg3
        have w4 := (w3.quiet q4).bound
        have op4' : Lst rBop 0 (fun j => tg ow4 9 j ∧ j < k4.next) k4 m.opn (.slice ao m.opn.length co) := op4.1.mono (Nat.le_refl _) (Nat.le_refl _) (fun j hj hl _ => ⟨⟨hj, hl⟩, rfl⟩) (fun _ _ _ => rfl)
        have hw4 : Words (fun j => (tg ow4 9 j ∧ j < k4.next) ∧ blk (.slice ao m.opn.length co) ≠ some j) k4 o.data (.slice a2 o.data.length c2) :=
          w4.mono fun j hj _ => ⟨⟨⟨hge4 j hj.1, hj.2⟩, fun e => by
            have := op4.2 j e
            rw [hge4 j hj.1] at this; omega⟩, rfl⟩
        have hlen := op4.1.len
        obtain ⟨v5, k5, e5, l5, f5, n5⟩ := op4'.app1 (y := o) (cs := o.cs (.slice a2 o.data.length c2)) (bytes := 48) 4 rfl (rBop_iff.2 ⟨_, rfl, hi, hw4⟩) (by omega) (by omega) (Nat.zero_le _)
        obtain ⟨a5, c5, rfl, _⟩ := l5.len
        have k45 : Ks (· = 8) ow4 k4 (bump ow4 k4 8) k5 := Ks.fw (T := (· = 8)) (own := ow4) f5 (fun j _ e => op4.2 j e) 8
        obtain ⟨ow5, how5⟩ : ∃ ow5, bump ow4 k4 8 = ow5 := ⟨_, rfl⟩
        have hge5 : ∀ j, k4.next ≤ j → ow5 j = 8 := fun j hj => by rw [← how5]; exact bump_ge hj
        rw [how5] at k45
        clear how5
        have op5 : OpL ow5 k5 (m.opn ++ [o]) (.slice a5 (m.opn ++ [o]).length c5) := ⟨l5.weaken fun j hj => (k45.2 j hj.2).1.trans hj.1, fun j hj => by
          rcases n5 with n5 | ⟨ob, n5, hge⟩
          · rw [n5] at hj
            exact (k45.2 j (op4.1.blk_ge hj).2).1.trans (op4.2 j hj)
          · rw [n5] at hj; cases hj; exact hge5 _ hge⟩
        have hg5 := ((k45.2 id hl4).2 (by rw [ho4]; decide)).trans hg4
        have ho5 := (k45.2 id hl4).1.trans ho4
        have hl5 : id < k5.next := Nat.lt_of_lt_of_le hl4 k45.1
        have lb4 : h.next < k4.next := Nat.lt_of_lt_of_le lb3 q4.1
        have g4 := (q4.2 _ lb3).trans g3
        have g5 := ((k45.2 _ lb4).2 (by rw [hge4 _ (Nat.le_refl _)]; decide)).trans g4
        have hw5 : Words (fun j => ow5 j = 9) k5 o.data (.slice a2 o.data.length c2) := w4.mono fun j hj _ => ⟨(k45.2 j hj.2).1.trans (hge4 j hj.1), (k45.2 j hj.2).2 (by rw [hge4 j hj.1]; decide)⟩
        simp only [go_sem, simprocAttr, e5, hg5]
        obtain ⟨k6, hk6⟩ : ∃ k6, k5.set id (.cells [.int .i64 m.n, .pointer (some ⟨fid, 0, none⟩), uv, .int .i64 m.gen, .int .i64 m.now, .int .i64 m.sure, .slice a5 (m.opn ++ [o]).length c5, .map (some mid), rv, .bool false] .rw) = k6 := ⟨_, rfl⟩
        rw [hk6]
        have k56 : Ks (· = 6) ow5 k5 ow5 k6 := by rw [← hk6]; exact Ks.set (T := (· = 6)) ho5 _
        have hg6 : k6.get id = .cells [.int .i64 m.n, .pointer (some ⟨fid, 0, none⟩), uv, .int .i64 m.gen, .int .i64 m.now, .int .i64 m.sure, .slice a5 (m.opn ++ [o]).length c5, .map (some mid), rv, .bool false] .rw := by rw [← hk6]; exact AHeap.get_set_self _ _ hl5
        clear hk6
        have lb5 := Nat.lt_of_lt_of_le lb4 k45.1
        have g6 := ((k56.2 _ lb5).2 (by rw [(k45.2 _ lb4).1, hge4 _ (Nat.le_refl _)]; decide)).trans g5
        have a6 : ShAt ow5 k6 id { m with opn := m.opn ++ [o] } := by
          refine ⟨ho5, fid, uv, _, mid, rv, by unfold shC; dsimp only; rw [hz]; exact hg6, ?_⟩
          exact ⟨(c4.fo.ks k45 (by decide) (by decide)).ks k56 (by decide) (by decide), (c4.un.mono k45.1 (k45.tg (by decide))).mono k56.1 (k56.tg (by decide)), op5.ks k56 (by decide) (by decide), (c4.mp.ks k45 (by decide)).ks k56 (by decide), (c4.od.ks k45 (by decide)).ks k56 (by decide)⟩
        have hw6 : Words (fun j => ow5 j = 9) k6 o.data (.slice a2 o.data.length c2) := hw5.mono fun j hj hl => ⟨hj, (k56.2 j hl).2 (by rw [hj]; decide)⟩
        simp only [go_sem, simprocAttr, hg6, g6, bo_len, bo_take]
        have g6' := g.more hf (by omega)
        refine cl_spec (sdone_ok a6 g6' (by omega) g6'.now hf hi hw6 (fun j hj => by rw [hj]; decide)) (fun _ _ _ hc => absurd hc (by decide +kernel)) ?_
        rintro u k7 ⟨rfl, ow7, a7, k67⟩
        have hl7 := a7.lt
        obtain ⟨ho7, fid7, uv7, ov7, mid7, rv7, hg7, c7⟩ := a7
        unfold shC at hg7
        simp only [go_sem, simprocAttr, hg7]
        have k78 : Ks (· = 6) ow7 k7 ow7 (k7.set id (.cells (shC { m.go o with opn := m.opn ++ [o] } fid7 uv7 ov7 mid7 rv7) .rw)) := .set (T := (· = 6)) ho7 _
        have c8 := c7.ks k78 (by omega)
        refine ⟨ow7, ⟨ho7, fid7, _, _, mid7, rv7, AHeap.get_set_self _ _ hl7, ⟨c8.fo, c8.un, c8.op, c8.mp, c8.od⟩⟩, ?_⟩
        exact (ks4.weaken fun t e => e.elim).trans ((k45.weaken fun t e => by subst e; unfold shT; decide).trans ((k56.weaken fun t e => by subst e; unfold shT; decide).trans ((k67.weaken fun t e => by unfold shT; omega).trans (k78.weaken fun t e => by subst e; unfold shT; decide))))
  · rw [if_pos hf]
    simp only [go_sem, simprocAttr, decide_eq_false hf]
    refine ⟨bump own h 9, ?_, .quiet Q1 9⟩
    exact ShAt.quiet ⟨ho, fid, _, _, mid, rv, hg, c⟩ Q1 9
end
end Go.Proofs.YtedpfdflolkpeaaGreatDoor
