/- volume: may, Do, Read: the walk. -/
import Derived.Test.YtedpfdflolkpeaaGreatDoorVoF
set_option linter.unusedSimpArgs false
set_option linter.unusedVariables false
set_option linter.unnecessarySimpa false
set_option maxRecDepth 100000
namespace Go.Proofs.YtedpfdflolkpeaaGreatDoor
open Go.AM

def putS : List (Int × Int) → Int → Int → List (Int × Int)
  | [], n, v => [(n, v)]
  | p :: ps, n, v => if n = p.1 then (n, v) :: ps else p :: putS ps n v
theorem lookS_put : ∀ (m : List (Int × Int)) (n v x : Int), lookS (putS m n v) x = if x = n then some v else lookS m x
  | [], n, v, x => by unfold putS lookS; rfl
  | p :: ps, n, v, x => by
    unfold putS
    by_cases h : n = p.1
    · rw [if_pos h]
      unfold lookS
      dsimp only
      by_cases hx : x = n
      · rw [if_pos hx, if_pos hx]
      · rw [if_neg hx, if_neg hx, if_neg (by omega)]
    · rw [if_neg h]
      unfold lookS
      rw [lookS_put ps n v x]
      by_cases hx : x = p.1
      · rw [if_pos hx, if_neg (by omega), if_pos hx]
      · rw [if_neg hx, if_neg hx]
theorem MsI.put {n : Int} : ∀ {es : List MapEntry} {m : List (Int × Int)} (_ : MsI es m) (i : Nat), (∃ k r, lookS m n = some r ∧ afind .i64 n es i = some (some (i + k, .int .i64 r)) ∧ ∀ v, MsI (es.modify k fun e => { e with key := .int .i64 n, val := .int .i64 v }) (putS m n v)) ∨
    (afind .i64 n es i = some none ∧ lookS m n = none ∧ ∀ v b, MsI (es ++ [{ key := .int .i64 n, val := .int .i64 v, born := b }]) (putS m n v))
  | [], [], _, i => .inr ⟨rfl, rfl, fun v b => rfl⟩
  | [], _ :: _, hm, _ => by simp [MsI] at hm
  | _ :: _, [], hm, _ => by simp [MsI] at hm
  | e :: es, p :: ps, hm, i => by
    unfold MsI at hm
    simp only [List.map_cons, List.cons.injEq, Prod.mk.injEq] at hm
    obtain ⟨⟨h1, h2⟩, h3⟩ := hm
    unfold afind lookS putS
    simp only [h1, if_true]
    by_cases hn : n = p.1
    · left
      refine ⟨0, p.2, by rw [if_pos hn], by rw [if_pos hn, h2]; rfl, fun v => ?_⟩
      rw [if_pos hn]
      simp only [MsI, List.modify_zero_cons, List.map_cons]
      rw [h3]
    · simp only [if_neg hn]
      rcases MsI.put (n := n) (es := es) (m := ps) h3 (i + 1) with ⟨k, r, k0, k1, k2⟩ | ⟨k1, k2, k3⟩
      · refine .inl ⟨k + 1, r, k0, by rw [k1]; congr 3; omega, fun v => ?_⟩
        have := k2 v
        simp only [MsI, List.modify_succ_cons, List.map_cons, h1, h2] at this ⊢
        rw [this]
      · refine .inr ⟨k1, k2, fun v b => ?_⟩
        have := k3 v b
        simp only [MsI, List.cons_append, List.map_cons, h1, h2] at this ⊢
        rw [this]
section
variable {ow ow' ow'' : Nat → Nat → Nat} {h h' h'' : AHeap} {id : Nat} {v : Vm} {S : Nat → Prop} {b : Nat}
theorem map_look {r : Nat} {es : List MapEntry} {ck : Nat} {m : List (Int × Int)} {n : Int} (hg : h.get r = .map es ck) (hm : MsI es m) : alookup Tryz.prog h 142 (.map (some r)) (.int .i64 n) false = some (.int .i64 ((lookS m n).getD 0)) := by
  unfold alookup
  simp only [go_sem, hg]
  rcases hm.put (n := n) 0 with ⟨k, r', k0, k1, _⟩ | ⟨k1, k2, _⟩
  · rw [k1, k0]; rfl
  · rw [k1, k2]; rfl
theorem map_put {r : Nat} {es : List MapEntry} {ck : Nat} {m : List (Int × Int)} {n v : Int} (hg : h.get r = .map es ck) (hm : MsI es m) :
    ∃ es' ck', amapUpdate Tryz.prog h 142 (.map (some r)) (.int .i64 n) (.int .i64 v) = some (h.set r (.map es' ck')) ∧ MsI es' (putS m n v) := by
  unfold amapUpdate
  simp only [go_sem, hg]
  rcases hm.put (n := n) 0 with ⟨k, r', k0, k1, k2⟩ | ⟨k1, k2, k3⟩
  · rw [k1]; exact ⟨_, _, by rw [Nat.zero_add], k2 v⟩
  · rw [k1]; exact ⟨_, _, rfl, k3 v _⟩
theorem may1_cons (v : Vm) (p : Pl.Part) (r : List Pl.Part) : may1 v (p :: r) = if (v.sh p.node.toNat).frozen then 11 else if 256 ≤ (v.sh p.node.toNat).opn.length then 6 else may1 v r := by rw [may1]
theorem may1_app (v : Vm) : ∀ (l : List Pl.Part) (p : Pl.Part) (r : List Pl.Part), may1 v l = 0 → may1 v (l ++ p :: r) = if (v.sh p.node.toNat).frozen then 11 else if 256 ≤ (v.sh p.node.toNat).opn.length then 6 else may1 v r
  | [], p, r, _ => may1_cons v p r
  | q :: l, p, r, h => by
    rw [may1_cons] at h
    rw [List.cons_append, may1_cons]
    split at h
    · cases h
    · rename_i h1
      split at h
      · cases h
      · rename_i h2
        rw [if_neg h1, if_neg h2]
        exact may1_app v l p r h
theorem cntN_app (l : List Pl.Part) (p : Pl.Part) (x : Int) : cntN (l ++ [p]) x = cntN l x + if p.node = x then 1 else 0 := by
  unfold cntN
  rw [List.filter_append, List.length_append]
  congr 1
  by_cases h : p.node = x
  · rw [if_pos h]; simp [h]
  · rw [if_neg h]; simp [h]
theorem cntN_le (l : List Pl.Part) (x : Int) : cntN l x ≤ l.length := List.length_filter_le _ _
theorem vmay_ok (a : VAt ow h id v) (g : v.good b) {l : List Pl.Part} {w : Value} (hl : IsSl Pl.rPart S h l w) (hnode : ∀ p ∈ l, 0 ≤ p.node ∧ p.node < 16) (hll : l.length ≤ 16) :
    Does Tryz.prog 55 #[.pointer (some ⟨id, 0, none⟩), w] h (fun u h' => errV h' (v.may l) u ∧ h.quiet h') := by
  obtain ⟨aw, cw, rfl⟩ := hl.shape
  obtain ⟨pv, sv, ids, c⟩ := a
  obtain ⟨asv, csv, rfl⟩ := c.shs.shape
  have hn : (shL ids).length = 16 := by simp [shL]
  have hg := c.get
  unfold volC at hg
  rw [hn] at hg c
  have hidl := c.lt
  refine spec_go mixed Tryz.func55 rfl Tryz.results55 (n := Tryz.f55.ntmps) (by kernel_rfl) (by simp) ?_
  simp only [go_sem, simprocAttr]
  refine go_cutb (fun ρ k => may1 v l = 0 ∧ h.quiet k ∧ ρ 0 = .pointer (some ⟨id, 0, none⟩) ∧ ρ 1 = .slice aw l.length cw) ?_ ?_
  · refine go_loop (fun z ρ k => ∃ i : Nat, i ≤ l.length ∧ z = l.length - i ∧ may1 v (l.take i) = 0 ∧ h.quiet k ∧ ρ 0 = .pointer (some ⟨id, 0, none⟩) ∧ ρ 1 = .slice aw l.length cw ∧ ρ 10 = .slice aw l.length cw ∧ ρ 11 = .int .i64 l.length ∧ ρ 12 = .int .i64 i) l.length
      ⟨0, by omega, by omega, rfl, .refl _, by simp only [go_sem, simprocAttr]⟩ ?_
    rintro z ρ k ⟨i, hi, rfl, hm, q, r0, r1, r10, r11, r12⟩
    simp only [go_sem, simprocAttr, r0, r1, r10, r11, r12]
    refine cnd_decide (fun hy => ?_) (fun hy => ?_)
    · have h1 : i < l.length := by omega
      have e12 : IntKind.i64.wrap ((i : Int) + 1) = ((i + 1 : Nat) : Int) := by rw [wi64] <;> omega
      obtain ⟨b0, off, sp, cc, md, p, d, hA, _, hgp, hpi, hp1, hp2, hp3, hp4, hle, hdt, hdt2, f0, f1, f2, f3, f4, f5⟩ := (hl.quiet q).atPart h1
      subst hA
      obtain ⟨ad, cd, rfl⟩ := hp4.shape
      have hnd := hnode p (List.mem_of_getElem? hpi)
      have hk : p.node.toNat < 16 := by omega
      have e1 : l.take (i + 1) = l.take i ++ [p] := by rw [List.take_add_one, hpi]; rfl
      have e2 : l = l.take i ++ p :: l.drop (i + 1) := by rw [← drop_cons hpi, List.take_append_drop]
      have em := may1_app v (l.take i) p (l.drop (i + 1)) hm
      rw [← e2] at em
      have em1 := may1_app v (l.take i) p [] hm
      rw [← e1] at em1
      have hg' := (q.2 _ hidl).trans hg
      obtain ⟨_, b1, o1, sp1, cc1, md1, rfl, g1, g2⟩ := c.shat hk
      have lb1 := AHeap.lt_of_alive h (i := b1) (by rw [g1]; simp)
      have g1' := (q.2 _ lb1).trans g1
      simp only [go_sem, simprocAttr, r0, r1, r10, r11, r12, h1, hgp, hdt, hle]
      have qp : k.quiet (k.push (.cells [.int .i64 p.piece, .int .i64 p.node, .int .i64 p.op.kind, .int .i64 p.op.off, .int .i64 p.op.len, .slice ad p.op.data.length cd] .rw)) := .push _ _
      have gp : (k.push (.cells [.int .i64 p.piece, .int .i64 p.node, .int .i64 p.op.kind, .int .i64 p.op.off, .int .i64 p.op.len, .slice ad p.op.data.length cd] .rw)).get k.next = .cells [.int .i64 p.piece, .int .i64 p.node, .int .i64 p.op.kind, .int .i64 p.op.off, .int .i64 p.op.len, .slice ad p.op.data.length cd] .rw := by simp
      generalize k.push (.cells [.int .i64 p.piece, .int .i64 p.node, .int .i64 p.op.kind, .int .i64 p.op.off, .int .i64 p.op.len, .slice ad p.op.data.length cd] .rw) = k1 at qp gp
      have q1 := q.trans qp
      have hg1 := (qp.2 _ (Nat.lt_of_lt_of_le hidl q.1)).trans hg'
      have g11 := (qp.2 _ (Nat.lt_of_lt_of_le lb1 q.1)).trans g1'
      have lt16 : p.node.toNat < 16 := hk
      have nn0 : 0 ≤ p.node := hnd.1
      have n16 : p.node < 16 := hnd.2
      simp only [go_sem, simprocAttr, r0, hg1, gp, nn0, n16, lt16, g11, g2]
      have sa := (c.quiet q1).sat _ hk
      refine cl_spec (sFrozen_ok sa) (fun _ _ _ hc => absurd hc (by decide +kernel)) ?_
      rintro u k2 ⟨rfl, rfl⟩
      by_cases hfz : (v.sh p.node.toNat).frozen = true
      · rw [if_pos hfz] at em
        rw [hfz]
        have hmay : v.may l = 11 := by unfold Vm.may; rw [em, if_pos (by decide)]
        rw [hmay]
        simp only [go_sem, simprocAttr, gp]
        exact ⟨.inr ⟨by decide, _, p.node, rfl, by simp only [go_sem, simprocAttr]⟩, q1.push' _⟩
      · rw [if_neg hfz] at em em1
        have hfz' : (v.sh p.node.toNat).frozen = false := by simpa using hfz
        rw [hfz']
        simp only [go_sem, simprocAttr, r0, hg1, gp, nn0, n16, lt16, g11, g2]
        refine cl_spec (sDirty_ok sa) (fun _ _ _ hc => absurd hc (by decide +kernel)) ?_
        rintro u k3 ⟨rfl, rfl⟩
        by_cases hd : 256 ≤ (v.sh p.node.toNat).opn.length
        · rw [if_pos hd] at em
          have hd' : (256 : Int) ≤ ((v.sh p.node.toNat).opn.length : Nat) := by omega
          have hmay : v.may l = 6 := by unfold Vm.may; rw [em, if_pos (by decide)]
          rw [hmay]
          simp only [go_sem, simprocAttr, hd', gp, decide_true]
          exact ⟨.inr ⟨by decide, _, p.node, rfl, by simp only [go_sem, simprocAttr]⟩, q1.push' _⟩
        · rw [if_neg hd] at em em1
          have hd' : ¬ (256 : Int) ≤ ((v.sh p.node.toNat).opn.length : Nat) := by omega
          simp only [go_sem, simprocAttr, hd', r12, e12, decide_false]
          exact Hold.mk ⟨l.length - (i + 1), by omega, i + 1, by omega, rfl, em1, q1, by simp only [go_sem, simprocAttr, r0, r1, r10, r11]⟩
    · have : i = l.length := by omega
      subst this
      rw [List.take_length] at hm
      simp only [go_sem, simprocAttr]
      exact Hold.mk ⟨hm, q, by simp only [go_sem, simprocAttr, r0, r1]⟩
  · rintro ρ k ⟨hm, q, r0, r1⟩
    have hmay : v.may l = may2 v [] l := by unfold Vm.may; rw [if_neg (fun e => e hm)]
    rw [hmay]
    simp only [go_sem, simprocAttr, r0, r1]
    refine go_cutb (fun ρ k' => may2 v [] l = 0 ∧ h.quiet k') ?_ ?_
    · refine go_loop (fun z ρ k' => ∃ (i mid : Nat) (es : List MapEntry) (ck : Nat) (m : List (Int × Int)), i ≤ l.length ∧ z = l.length - i ∧ may2 v [] l = may2 v (l.take i) (l.drop i) ∧ h.quiet k' ∧ h.next ≤ mid ∧ k'.get mid = .map es ck ∧ MsI es m ∧ (∀ x, (lookS m x).getD 0 = cntN (l.take i) x) ∧
        ρ 0 = .pointer (some ⟨id, 0, none⟩) ∧ ρ 7 = .map (some mid) ∧ ρ 47 = .slice aw l.length cw ∧ ρ 48 = .int .i64 l.length ∧ ρ 49 = .int .i64 i) l.length
        ⟨0, k.next, [], 0, [], by omega, by omega, rfl, q.push' _, q.1, by simp, rfl, fun x => rfl, by simp only [go_sem, simprocAttr, r0]⟩ ?_
      rintro z ρ k1 ⟨i, mid, es, ck, m, hi, rfl, hm2, q1, hmid, gm, hms, hcnt, r0, r7, r47, r48, r49⟩
      simp only [go_sem, simprocAttr, r0, r7, r47, r48, r49]
      refine cnd_decide (fun hy => ?_) (fun hy => ?_)
      · have h1 : i < l.length := by omega
        have e12 : IntKind.i64.wrap ((i : Int) + 1) = ((i + 1 : Nat) : Int) := by rw [wi64] <;> omega
        obtain ⟨b0, off, sp, cc, md, p, d, hA, _, hgp, hpi, hp1, hp2, hp3, hp4, hle, hdt, hdt2, f0, f1, f2, f3, f4, f5⟩ := (hl.quiet q1).atPart h1
        subst hA
        obtain ⟨ad, cd, rfl⟩ := hp4.shape
        have hnd := hnode p (List.mem_of_getElem? hpi)
        have hk : p.node.toNat < 16 := by omega
        have e1 : l.take (i + 1) = l.take i ++ [p] := by rw [List.take_add_one, hpi]; rfl
        have hcl := cntN_le (l.take i) p.node
        rw [List.length_take] at hcl
        obtain ⟨_, b1, o1, sp1, cc1, md1, rfl, g1, g2⟩ := c.shat hk
        have lb1 := AHeap.lt_of_alive h (i := b1) (by rw [g1]; simp)
        have lmid := AHeap.lt_of_alive k1 (i := mid) (by rw [gm]; simp)
        simp only [go_sem, simprocAttr, r0, r7, r47, r48, r49, h1, hgp, hdt, hle]
        have qp : k1.quiet (k1.push (.cells [.int .i64 p.piece, .int .i64 p.node, .int .i64 p.op.kind, .int .i64 p.op.off, .int .i64 p.op.len, .slice ad p.op.data.length cd] .rw)) := .push _ _
        have gp : (k1.push (.cells [.int .i64 p.piece, .int .i64 p.node, .int .i64 p.op.kind, .int .i64 p.op.off, .int .i64 p.op.len, .slice ad p.op.data.length cd] .rw)).get k1.next = .cells [.int .i64 p.piece, .int .i64 p.node, .int .i64 p.op.kind, .int .i64 p.op.off, .int .i64 p.op.len, .slice ad p.op.data.length cd] .rw := by simp
        generalize k1.push (.cells [.int .i64 p.piece, .int .i64 p.node, .int .i64 p.op.kind, .int .i64 p.op.off, .int .i64 p.op.len, .slice ad p.op.data.length cd] .rw) = k2 at qp gp
        have gm2 := (qp.2 _ lmid).trans gm
        obtain ⟨es', ck', eput, hms'⟩ := map_put (n := p.node) (v := ((cntN (l.take i) p.node + 1 : Nat) : Int)) gm2 hms
        have elook := map_look (n := p.node) gm2 hms
        rw [hcnt] at elook
        have ecw : IntKind.i64.wrap ((cntN (l.take i) p.node : Int) + 1) = ((cntN (l.take i) p.node + 1 : Nat) : Int) := by rw [wi64] <;> omega
        simp only [go_sem, simprocAttr, r7, gp, elook, ecw, eput]
        have q3 : h.quiet (k2.set mid (.map es' ck')) := (q1.trans qp).set' hmid _
        have gm3 : (k2.set mid (.map es' ck')).get mid = .map es' ck' := AHeap.get_set_self _ _ (Nat.lt_of_lt_of_le lmid qp.1)
        have gp3 : (k2.set mid (.map es' ck')).get k1.next = .cells [.int .i64 p.piece, .int .i64 p.node, .int .i64 p.op.kind, .int .i64 p.op.off, .int .i64 p.op.len, .slice ad p.op.data.length cd] .rw := (AHeap.get_set_ne _ _ (by omega)).trans gp
        have elook3 := map_look (n := p.node) gm3 hms'
        have hcnt3 : ∀ x, (lookS (putS m p.node ((cntN (l.take i) p.node + 1 : Nat) : Int)) x).getD 0 = cntN (l.take (i + 1)) x := fun x => by
          rw [lookS_put, e1, cntN_app]
          by_cases e : x = p.node
          · rw [if_pos e, if_pos e.symm, e]; rfl
          · rw [if_neg e, if_neg (Ne.symm e), hcnt x]; rfl
        rw [lookS_put, if_pos rfl, Option.getD_some] at elook3
        generalize k2.set mid (.map es' ck') = k3 at q3 gm3 gp3 elook3
        have hg3 := (q3.2 _ hidl).trans hg
        have g13 := (q3.2 _ lb1).trans g1
        have lt16 : p.node.toNat < 16 := hk
        have nn0 : 0 ≤ p.node := hnd.1
        have n16 : p.node < 16 := hnd.2
        simp only [go_sem, simprocAttr, r0, r7, hg3, gp3, nn0, n16, lt16, g13, g2]
        have sa := (c.quiet q3).sat _ hk
        refine cl_spec (sDirty_ok sa) (fun u h' hp _ => by rw [hp.2]; exact .refl _) ?_
        rintro u k4 ⟨rfl, rfl⟩
        have hol := ((g.sh _ hk).1).ol
        have ew : IntKind.i64.wrap (((v.sh p.node.toNat).opn.length : Nat) + ((cntN (l.take i) p.node + 1 : Nat) : Int)) = (((v.sh p.node.toNat).opn.length + (cntN (l.take i) p.node + 1) : Nat) : Int) := by rw [wi64] <;> omega
        simp only [go_sem, simprocAttr, r7, gp3, elook3, ew]
        rw [drop_cons hpi] at hm2
        have em2 : may2 v (l.take i) (p :: l.drop (i + 1)) = if 256 < (v.sh p.node.toNat).opn.length + (cntN (l.take i) p.node + 1) then 6 else may2 v (l.take i ++ [p]) (l.drop (i + 1)) := by rw [may2]
        rw [em2] at hm2
        by_cases hd : 256 < (v.sh p.node.toNat).opn.length + (cntN (l.take i) p.node + 1)
        · rw [if_pos hd] at hm2
          have hd' : (256 : Int) < (((v.sh p.node.toNat).opn.length + (cntN (l.take i) p.node + 1) : Nat) : Int) := by omega
          rw [hm2]
          simp only [go_sem, simprocAttr, hd', gp3, decide_true]
          exact ⟨.inr ⟨by decide, _, p.node, rfl, by simp only [go_sem, simprocAttr]⟩, q3.push' _⟩
        · rw [if_neg hd, ← e1] at hm2
          have hd' : ¬ (256 : Int) < (((v.sh p.node.toNat).opn.length + (cntN (l.take i) p.node + 1) : Nat) : Int) := by omega
          simp only [go_sem, simprocAttr, hd', r49, e12, decide_false]
          exact Hold.mk ⟨l.length - (i + 1), by omega, i + 1, mid, es', ck', _, by omega, rfl, hm2, q3, hmid, gm3, hms', hcnt3, by simp only [go_sem, simprocAttr, r0, r7, r47, r48]⟩
      · have : i = l.length := by omega
        subst this
        rw [List.take_length, List.drop_length] at hm2
        simp only [go_sem, simprocAttr]
        exact Hold.mk ⟨hm2, q1⟩
    · rintro ρ k' ⟨hm2, q1⟩
      rw [hm2]
      simp only [go_sem, simprocAttr]
      exact ⟨.inl ⟨rfl, rfl⟩, q1⟩
end
end Go.Proofs.YtedpfdflolkpeaaGreatDoor
