/- shard: what is seen of a volume: a range over a function. -/
import Derived.Test.YtjkganmkfhciiaaShA
import Derived.Test.YtjkganmkfhciiaaAmRange
set_option linter.unusedSimpArgs false
set_option linter.unusedVariables false
set_option linter.unnecessarySimpa false
set_option maxRecDepth 100000
namespace Go.Proofs.Ytjkganmkfhciiaa
open Go.AM

theorem wpO_mono {P : Program} {C : CallRel} {ops : Array Oper} {chk : Nat → Bool} {K K' : Env → AHeap → Prop} (hK : ∀ ρ h, K ρ h → K' ρ h) : ∀ (l : List Oper) (i : Nat) (ρ : Env) (h : AHeap), wpO P C ops chk K i l ρ h → wpO P C ops chk K' i l ρ h := by
  intro l
  induction l with
  | nil => intro i ρ h hw; exact hK ρ h hw
  | cons o rest ih =>
    intro i ρ h hw
    unfold wpO at hw ⊢
    split
    · rename_i hwant
      rw [if_pos hwant] at hw
      cases hc : acall? ρ.ev o.op with
      | none =>
        simp only [hc] at hw ⊢
        cases hop : aop P ρ.ev h o.op with
        | none => simp [hop] at hw
        | some p => simp only [hop] at hw ⊢; exact ih _ _ _ hw
      | some q =>
        cases q with
        | none => simp [hc] at hw
        | some q =>
          simp only [hc] at hw ⊢
          obtain ⟨v, h', h1, h2, h3⟩ := hw
          exact ⟨v, h', h1, h2, ih _ _ _ h3⟩
    · rename_i hwant
      rw [if_neg hwant] at hw
      exact ih _ _ _ hw
theorem ro_cut {Γ : Cx} {ops : Array Oper} {chk : Nat → Bool} {i : Nat} {l : List Oper} {k : List Fr} {ρ : Env} {h : AHeap} (J : Env → AHeap → Prop) (h1 : ro Γ ops chk i l (.jo J :: k) ρ h) (h2 : ∀ ρ h, J ρ h → nx Γ k ρ h) : ro Γ ops chk i l k ρ h :=
  wpO_mono (fun ρ h hj => h2 ρ h hj) l i ρ h h1
/-- A cut behind the region in which a guard stands. -/
theorem gd_cut {Γ : Cx} {ops : Array Oper} {chk : Nat → Bool} {i : Nat} {o : Oper} {l : List Oper} {k : List Fr} {ρ : Env} {h : AHeap} {b : Bool} (J : Env → AHeap → Prop) (h1 : gd Γ ops chk i o l (.jo J :: k) ρ h b) (h2 : ∀ ρ h, J ρ h → nx Γ k ρ h) : gd Γ ops chk i o l k ρ h b := by
  unfold gd at h1 ⊢
  split
  · rename_i hb
    rw [if_pos hb] at h1
    unfold stc at h1 ⊢
    split
    · rename_i g args e
      rw [e] at h1
      obtain ⟨v, h', a, b, c⟩ := h1
      exact ⟨v, h', a, b, ro_cut J c h2⟩
    · rename_i e; rw [e] at h1; exact h1
    · rename_i e
      rw [e] at h1
      unfold stp at h1 ⊢
      split
      · rename_i e2; simp only [e2] at h1; exact ro_cut J h1 h2
      · rename_i e2; simp only [e2] at h1
  · rename_i hb
    rw [if_neg hb] at h1
    exact ro_cut J h1 h2

def wv (us : List Nat) : List Value := us.map fun n => .int .u64 (n : Nat)
/-- One block of an extent. -/
def exK (x : Ext) (k : Nat) : Ext := ⟨x.off + k, 1, x.phys + k, x.birth⟩
/-- What a block does to what is seen. -/
def kput (us : List Nat) (x : Ext) (v : List Nat) (k : Nat) : List Nat := if (x.phys + k).toNat < us.length then v.set (x.off + k).toNat (us.getD (x.phys + k).toNat 0) else v
def xput (us : List Nat) (v : List Nat) (x : Ext) : List Nat := (List.range x.len.toNat).foldl (kput us x) v
def viewL (us : List Nat) (n : Nat) (l : List Ext) : List Nat := l.foldl (xput us) (List.replicate n 0)
/-- .. and to the heap. -/
def kstep (us : List Nat) (vid : Nat) (x : Ext) (s : AHeap × List Nat) (k : Nat) : AHeap × List Nat :=
  if (x.phys + k).toNat < us.length then ((s.1.push (.cells (exK x k).cs .rw)).set vid (.cells (wv (kput us x s.2 k)) .rw), kput us x s.2 k) else (s.1.push (.cells (exK x k).cs .rw), s.2)
def xstep (us : List Nat) (vid : Nat) (s : AHeap × List Nat) (x : Ext) : AHeap × List Nat := (List.range x.len.toNat).foldl (kstep us vid x) (s.1.push (.cells x.cs .rw), s.2)

/-- Behind some blocks. -/
structure VI (h0 : AHeap) (vid n : Nat) (s : AHeap × List Nat) : Prop where
  le : h0.next ≤ s.1.next
  keep : ∀ j, j < h0.next → j ≠ vid → s.1.get j = h0.get j
  here : s.1.get vid = .cells (wv s.2) .rw
  len : s.2.length = n
theorem kput_len (us : List Nat) (x : Ext) (v : List Nat) (k : Nat) : (kput us x v k).length = v.length := by unfold kput; split <;> simp
section
variable {h0 : AHeap} {vid n : Nat} {s : AHeap × List Nat} {us : List Nat}
theorem VI.lt (a : VI h0 vid n s) : vid < s.1.next := AHeap.lt_of_alive s.1 (by rw [a.here]; simp)
theorem VI.push (a : VI h0 vid n s) (hv : vid < h0.next) (o : AObj) : VI h0 vid n (s.1.push o, s.2) :=
  ⟨by have := a.le; simp; omega, fun j hj hne => (AHeap.get_push_lt _ _ (Nat.lt_of_lt_of_le hj a.le)).trans (a.keep j hj hne), (AHeap.get_push_lt _ _ (Nat.lt_of_lt_of_le hv a.le)).trans a.here, a.len⟩
theorem VI.kstep (a : VI h0 vid n s) (hv : vid < h0.next) (x : Ext) (k : Nat) : VI h0 vid n (kstep us vid x s k) := by
  unfold Proofs.Ytjkganmkfhciiaa.kstep
  split
  · have b := a.push hv (.cells (exK x k).cs .rw)
    exact ⟨by simpa using b.le, fun j hj hne => (AHeap.get_set_ne _ _ (Ne.symm hne)).trans (b.keep j hj hne), AHeap.get_set_self _ _ b.lt, by simp only [kput_len]; exact a.len⟩
  · exact a.push hv _
theorem VI.ksteps (hv : vid < h0.next) (x : Ext) : ∀ (l : List Nat) {s : AHeap × List Nat}, VI h0 vid n s → VI h0 vid n (l.foldl (Proofs.Ytjkganmkfhciiaa.kstep us vid x) s)
  | [], _, a => a
  | k :: l, _, a => VI.ksteps hv x l (a.kstep hv x k)
theorem VI.xstep (a : VI h0 vid n s) (hv : vid < h0.next) (x : Ext) : VI h0 vid n (xstep us vid s x) := .ksteps hv x _ (a.push hv _)
theorem VI.xsteps (hv : vid < h0.next) : ∀ (l : List Ext) {s : AHeap × List Nat}, VI h0 vid n s → VI h0 vid n (l.foldl (Proofs.Ytjkganmkfhciiaa.xstep us vid) s)
  | [], _, a => a
  | x :: l, _, a => VI.xsteps hv l (a.xstep hv x)
theorem kstep_snd {s : AHeap × List Nat} {x : Ext} {k : Nat} : (kstep us vid x s k).2 = kput us x s.2 k := by
  unfold kstep
  split
  · rfl
  · rename_i e; unfold kput; rw [if_neg e]
theorem ksteps_snd {x : Ext} : ∀ (l : List Nat) (s : AHeap × List Nat), (l.foldl (kstep us vid x) s).2 = l.foldl (kput us x) s.2
  | [], _ => rfl
  | k :: l, s => by rw [List.foldl_cons, ksteps_snd l, kstep_snd]; rfl
theorem xsteps_snd : ∀ (l : List Ext) (s : AHeap × List Nat), (l.foldl (xstep us vid) s).2 = l.foldl (xput us) s.2
  | [], _ => rfl
  | x :: l, s => by rw [List.foldl_cons, xsteps_snd l]; unfold xstep; rw [ksteps_snd]; rfl
end

section
variable {h : AHeap} {S S' : Nat → Prop}
theorem each_ok {a : Option Addr} {n c : Nat} : Does Try.prog 55 #[.slice a n c] h (fun u h' => u = .func (.func 66) #[] #[.pointer (some ⟨h.next, 0, none⟩)] ∧ h' = h.push (.cells [.slice a n c] .rw)) := by
  refine spec_go mixed Try.func55 rfl Try.results55 (n := Try.f55.ntmps) (by kernel_rfl) (by simp) ?_
  simp only [go_sem, simprocAttr]

theorem View_ok {xs : List Ext} {lv uv : Value} {us : List Nat} {n : Int} (hx : IsSl rExt S h xs lv) (hu : Words S' h us uv) (g : GoodL xs) (hn : 0 ≤ n ∧ n ≤ 1024) (he : ∀ x ∈ xs, x.off + x.len ≤ n) :
    Does Try.prog 45 #[lv, .int .i64 n, uv] h (fun u h' => ∃ b, u = .tuple #[.slice (some ⟨b, 0, none⟩) n.toNat n.toNat, .int .i64 0] ∧ h.next ≤ b ∧ h'.get b = .cells (wv (viewL us n.toNat xs)) .rw ∧ h.quiet h') := by
  obtain ⟨al, cl_, rfl⟩ := hx.shape
  obtain ⟨au, cu, rfl⟩ := hu.shape
  have hxl := hx.len
  refine spec_go mixed Try.func45 rfl Try.results45 (n := Try.f45.ntmps) (by kernel_rfl) (by simp) ?_
  simp only [go_sem, simprocAttr]
  have q0 : h.quiet (h.push (.cells [.slice au us.length cu] .rw)) := .push _ _
  have g5 : (h.push (.cells [.slice au us.length cu] .rw)).get h.next = .cells [.slice au us.length cu] .rw := by simp
  generalize h.push (.cells [.slice au us.length cu] .rw) = k0 at q0 g5 ⊢
  have l5 := AHeap.lt_of_alive k0 (i := h.next) (by rw [g5]; simp)
  refine cl_spec (Right_ok (hx.quiet q0)) (fun _ _ _ hc => absurd hc (by decide +kernel)) ?_
  rintro u k1 ⟨⟨b, rfl, hb⟩, q1⟩
  have hb1 : b = true := hb.2 (right_iff.2 g)
  subst hb1
  have n1 : ¬ n < 0 := by omega
  have n2 : ¬ 1024 < n := by omega
  have g51 := (q1.2 _ l5).trans g5
  have Q1 := q0.trans q1
  simp only [go_sem, simprocAttr, n1, n2, decide_false]
  refine gd_cut (fun ρ k => ρ 43 = .bool false ∧ k = k1 ∧ ρ 0 = .slice al xs.length cl_ ∧ ρ 1 = .int .i64 n ∧ ρ 5 = .pointer (some ⟨h.next, 0, none⟩)) ?_ ?_
  · by_cases h0 : 0 < xs.length
    · have h0' : (0 : Int) < (xs.length : Int) := by omega
      obtain ⟨b, off, sp, cc, md, x, hA, _, hg, hxi, hxx, hle, hdt⟩ := IsSl.atX (hx.quiet Q1) (i := xs.length - 1) (by omega)
      have ox := g.1 x (List.mem_of_getElem? hxi)
      have ox' := ox
      unfold Ext.ok at ox'
      have hex := he x (List.mem_of_getElem? hxi)
      unfold Ext.cs at hdt
      have e1 : IntKind.i64.wrap ((xs.length : Int) - 1) = ((xs.length - 1 : Nat) : Int) := by rw [wi64] <;> omega
      have e2 : IntKind.i64.wrap (x.off + x.len) = x.off + x.len := by rw [wi64] <;> omega
      have e3 : ¬ n < x.off + x.len := by omega
      have e4 : xs.length - 1 < xs.length := by omega
      have f0 := seg_get hdt (k := 0) (by omega)
      have f1 := seg_get hdt (k := 1) (by omega)
      rw [Nat.add_zero] at f0
      simp only [go_sem, simprocAttr, h0', decide_true, e1, hA, hg, e4, hle, f0, f1, e2, e3, decide_false]
      exact Hold.mk ⟨by simp only [go_sem, simprocAttr], rfl, by simp only [go_sem, simprocAttr, hA], by simp only [go_sem, simprocAttr], by simp only [go_sem, simprocAttr]⟩
    · have h0' : ¬ (0 : Int) < (xs.length : Int) := by omega
      simp only [go_sem, simprocAttr, h0', decide_false]
      exact Hold.mk ⟨by simp only [go_sem, simprocAttr], rfl, by simp only [go_sem, simprocAttr], by simp only [go_sem, simprocAttr], by simp only [go_sem, simprocAttr]⟩
  · rintro ρ k ⟨r43, rfl, r0, r1, r5⟩
    have m1 : 0 ≤ n ∧ n ≤ n ∧ 8 * n ≤ 281474976710656 ∧ n ≤ 281474976710656 := by omega
    simp only [go_sem, simprocAttr, r43, r0, r1, r5, if_pos m1]
    refine cl_gen fun k2 g2 => ?_
    have q2 : k.quiet k2 := by rw [g2]; simp only [go_sem, simprocAttr]
    have gv : k2.get k.next = .cells (azeros [.int .u64 0] n.toNat) .rw := by rw [g2]; simp only [go_sem, simprocAttr]
    have gb : k2.get (k.next + 1) = .cells [.slice (some ⟨k.next, 0, none⟩) n.toNat n.toNat] .rw := by rw [g2]; simp only [go_sem, simprocAttr]
    have n2 : k2.next = k.next + 2 := by rw [g2]; simp
    clear g2
    refine cl_spec each_ok (fun u h' hp _ => by rw [hp.2]; exact .push _ _) ?_
    rintro u k3 ⟨rfl, hk3⟩
    have q3 : k2.quiet k3 := by rw [hk3]; exact .push _ _
    have gl : k3.get k2.next = .cells [.slice al xs.length cl_] .rw := by rw [hk3]; simp only [go_sem, simprocAttr]
    have n3 : k3.next = k2.next + 1 := by rw [hk3]; simp
    clear hk3
    have hz : azeros [.int .u64 0] n.toNat = wv (List.replicate n.toNat 0) := by
      simp only [azeros, wv, List.map_replicate]
      refine List.ext_getElem (by simp) fun i h1 h2 => ?_
      simp [Nat.mod_one]
    have v0 : VI k3 k.next n.toNat (k3, List.replicate n.toNat 0) := ⟨Nat.le_refl _, fun _ _ _ => rfl, by rw [q3.2 _ (by omega), gv, hz], by simp⟩
    have hvid : k.next < k3.next := by omega
    have gb3 := (q3.2 _ (by omega)).trans gb
    have gu3 := (q3.2 _ (by have := q2.1; have := Q1.1; omega)).trans ((q2.2 _ (AHeap.lt_of_alive k (by rw [g51]; simp))).trans g51)
    have Q3 := Q1.trans (q2.trans q3)
    have hx3b := hx.bound.quiet Q3
    have hu3 := hu.quiet Q3
    simp only [go_sem, simprocAttr]
    refine rgf_of mixed (gf := 66) (lb := #[.pointer (some ⟨k2.next, 0, none⟩)]) (by simp only [go_sem, simprocAttr]) rfl (by kernel_rfl) (by kernel_rfl) Try.func66 rfl Try.results66 (n := Try.f66.ntmps) (by kernel_rfl) (by kernel_rfl) (by simp)
      (xs.foldl (xstep us k.next) (k3, List.replicate n.toNat 0)).1 ?_ ?_
    · intro l
      simp only [go_sem, simprocAttr, gl]
      refine go_loop (fun z ρ w => ∃ i : Nat, i ≤ xs.length ∧ z = xs.length - i ∧ w = ((xs.take i).foldl (xstep us k.next) (k3, List.replicate n.toNat 0)).1 ∧
        ρ 0 = .func (.yield l) #[] #[] ∧ ρ 6 = .slice al xs.length cl_ ∧ ρ 7 = .int .i64 xs.length ∧ ρ 8 = .int .i64 i) xs.length ⟨0, by omega, by omega, rfl, by simp only [go_sem, simprocAttr]⟩ ?_
      rintro z ρ w ⟨i, hi, rfl, rfl, s0, s6, s7, s8⟩
      have vi := VI.xsteps (us := us) hvid (xs.take i) v0
      obtain ⟨s, hs⟩ : ∃ s, (xs.take i).foldl (xstep us k.next) (k3, List.replicate n.toNat 0) = s := ⟨_, rfl⟩
      rw [hs] at vi ⊢
      simp only [go_sem, simprocAttr, s0, s6, s7, s8]
      refine cnd_decide (fun hy => ?_) (fun hy => ?_)
      · have h1 : i < xs.length := by omega
        obtain ⟨b, off, sp, cc, md, x, hA, hSb, hg, hxi, hxx, hle, hdt⟩ := IsSl.atX hx3b h1
        have ox := g.1 x (List.mem_of_getElem? hxi)
        unfold Ext.ok at ox
        have hex := he x (List.mem_of_getElem? hxi)
        have hgs : s.1.get b = .cells cc md := (vi.keep b (by have := Q3.1; omega) (by have := Q1.1; omega)).trans hg
        have e8 : IntKind.i64.wrap ((i : Int) + 1) = ((i + 1 : Nat) : Int) := by rw [wi64] <;> omega
        have es : (xs.take (i + 1)).foldl (xstep us k.next) (k3, List.replicate n.toNat 0) = xstep us k.next s x := by
          rw [List.take_add_one, hxi, List.foldl_append, hs]; rfl
        unfold Ext.cs at hdt
        simp only [go_sem, simprocAttr, s0, s6, s7, s8, hA, hgs, hle, hdt, h1, decide_true]
        obtain ⟨w1, hw1⟩ : ∃ w1, s.1.push (.cells [.int .i64 x.off, .int .i64 x.len, .int .i64 x.phys, .int .i64 x.birth] .rw) = w1 := ⟨_, rfl⟩
        have vi1 : VI k3 k.next n.toNat (w1, s.2) := by rw [← hw1]; exact vi.push hvid _
        have gx : w1.get s.1.next = .cells [.int .i64 x.off, .int .i64 x.len, .int .i64 x.phys, .int .i64 x.birth] .rw := by rw [← hw1]; simp only [go_sem, simprocAttr]
        have nw : w1.next = s.1.next + 1 := by rw [← hw1]; simp
        have hw1' : s.1.push (.cells x.cs .rw) = w1 := hw1
        rw [hw1]
        refine go_loop (fun z ρ' w' => ∃ j : Nat, j ≤ x.len.toNat ∧ z = x.len.toNat - j ∧ w' = ((List.range j).foldl (kstep us k.next x) (w1, s.2)).1 ∧
          ρ' 0 = .func (.yield l) #[] #[] ∧ ρ' 6 = .slice al xs.length cl_ ∧ ρ' 7 = .int .i64 xs.length ∧ ρ' 8 = .int .i64 i ∧ ρ' 4 = .pointer (some ⟨s.1.next, 0, none⟩) ∧ ρ' 13 = .int .i64 x.len ∧ ρ' 14 = .int .i64 j) x.len.toNat
          ⟨0, by omega, by omega, rfl, by simp only [go_sem, simprocAttr, s0, s6, s7, s8, hA]⟩ ?_
        rintro z ρ' w' ⟨j, hj, rfl, rfl, u0, u6, u7, u8, u4, u13, u14⟩
        have vj := VI.ksteps (us := us) hvid x (List.range j) vi1
        obtain ⟨sj, hsj⟩ : ∃ sj, (List.range j).foldl (kstep us k.next x) (w1, s.2) = sj := ⟨_, rfl⟩
        have ej : (List.range (j + 1)).foldl (kstep us k.next x) (w1, s.2) = kstep us k.next x sj j := by
          rw [List.range_succ, List.foldl_append, hsj]; rfl
        have vjw := VI.ksteps (us := us) (h0 := w1) (n := n.toNat) (vid := k.next) (s := (w1, s.2)) (Nat.lt_of_lt_of_le hvid vi1.le) x (List.range j) ⟨Nat.le_refl _, fun _ _ _ => rfl, vi1.here, vi1.len⟩
        rw [hsj] at vj vjw ⊢
        have gxj := (vjw.keep s.1.next (by omega) (by have := vi.lt; omega)).trans gx
        simp only [go_sem, simprocAttr, u0, u6, u7, u8, u4, u13, u14]
        refine cnd_decide (fun hy => ?_) (fun hy => ?_)
        · have hj1 : j < x.len.toNat := by omega
          have w1_ : IntKind.i64.wrap (x.off + j) = x.off + j := by rw [wi64] <;> omega
          have w2_ : IntKind.i64.wrap (x.phys + j) = x.phys + j := by rw [wi64] <;> omega
          have w3_ : IntKind.i64.wrap ((j : Int) + 1) = ((j + 1 : Nat) : Int) := by rw [wi64] <;> omega
          simp only [go_sem, simprocAttr, u0, u6, u7, u8, u4, u13, u14, gxj, w1_, w2_]
          refine cl_yield (v := .bool true) (h' := (kstep us k.next x sj j).1) ⟨rfl, rfl, rfl, ?_⟩ (fun hc => by cases hc) ?_
          · have lu : h.next < sj.1.next := by have := vj.le; have := Q3.1; have := Q1.1; have := l5; have := q1.1; simp only at *; omega
            have gu_ : ∀ o, (sj.1.push o).get h.next = .cells [.slice au us.length cu] .rw := fun o => (AHeap.get_push_lt _ _ lu).trans ((vj.keep _ (by have := Q3.1; have := Q1.1; have := l5; have := q1.1; omega) (by have := Q1.1; have := l5; have := q1.1; omega)).trans gu3)
            have gb_ : ∀ o, (sj.1.push o).get (k.next + 1) = .cells [.slice (some ⟨k.next, 0, none⟩) n.toNat n.toNat] .rw := fun o => (AHeap.get_push_lt _ _ (by have := vj.le; omega)).trans ((vj.keep _ (by omega) (by omega)).trans gb3)
            have gv_ : ∀ o, (sj.1.push o).get k.next = .cells (wv sj.2) .rw := fun o => (AHeap.get_push_lt _ _ vj.lt).trans vj.here
            simp only [go_sem, simprocAttr, setsE, List.zip_cons_cons, List.zip_nil_right, List.foldl_cons, List.foldl_nil, r5, gu_]
            refine cnd_decide (fun hc => ?_) (fun hc => ?_)
            · have hc' : (x.phys + j).toNat < us.length := by omega
              have hp0 : (0 : Int) ≤ x.phys + j := by omega
              have ho0 : (0 : Int) ≤ x.off + j := by omega
              have ho1 : x.off + j < (n.toNat : Int) := by omega
              obtain ⟨bu, ou, su, cu_, mu, y, hAu, hSu, hgu, hyi, hyl, hyd⟩ := (hu.bound.quiet Q3).atN hc'
              have hgu_ : ∀ o, (sj.1.push o).get bu = .cells cu_ mu := fun o => (AHeap.get_push_lt _ _ (by have := vj.le; have := Q3.1; simp only at *; omega)).trans ((vj.keep _ (by have := Q3.1; omega) (by have := Q1.1; omega)).trans hgu)
              simp only [go_sem, simprocAttr, setsE, List.zip_cons_cons, List.zip_nil_right, List.foldl_cons, List.foldl_nil, r5, gu_, gb_, hAu, hgu_, hp0, hc, hyd, ho0, ho1, gv_, true_and, if_true]
              have hlw : (x.off + j).toNat + 1 ≤ (wv sj.2).length := by have := vj.len; unfold wv; rw [List.length_map]; omega
              simp only [go_sem, simprocAttr, hlw, if_true]
              refine Hold.mk ?_
              have hyy : us.getD (x.phys + j).toNat 0 = y := by rw [List.getD, hyi]; rfl
              unfold kstep kput
              rw [if_pos hc', if_pos hc', hyy]
              unfold wv
              rw [List.map_set]
              rfl
            · have hc' : ¬ (x.phys + j).toNat < us.length := by omega
              simp only [go_sem, simprocAttr]
              refine Hold.mk ?_
              unfold kstep
              rw [if_neg hc']
              rfl
          · simp only [go_sem, simprocAttr, u14, w3_]
            refine Hold.mk ⟨x.len.toNat - (j + 1), by omega, j + 1, by omega, rfl, by rw [ej], by simp only [go_sem, simprocAttr, u0, u6, u7, u8, u4, u13]⟩
        · have hjx : j = x.len.toNat := by omega
          simp only [go_sem, simprocAttr, u0, u6, u7, u8, u4, u13, u14, e8]
          refine Hold.mk ⟨xs.length - (i + 1), by omega, i + 1, by omega, rfl, ?_, by simp only [go_sem, simprocAttr, u0, u6, u7, hA]⟩
          rw [es, ← hsj, hjx, ← hw1']; rfl
      · have hi' : i = xs.length := by omega
        subst hi'
        rw [List.take_length] at hs
        simp only [go_sem, simprocAttr, hs]
        done
    · have vi := VI.xsteps (us := us) hvid xs v0
      have gvb := (vi.keep (k.next + 1) (by omega) (by omega)).trans gb3
      have gvh := vi.here
      rw [xsteps_snd] at gvh
      simp only [go_sem, simprocAttr, gvb]
      exact ⟨k.next, rfl, Q1.1, gvh, ⟨Nat.le_trans Q3.1 vi.le, fun j hj => (vi.keep j (by have := Q3.1; omega) (by have := Q1.1; omega)).trans (Q3.2 j hj)⟩⟩
end
end Go.Proofs.Ytjkganmkfhciiaa
