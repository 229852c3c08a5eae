/- volume: a volume, as it stands in the heap: sixteen shards, each with what is its own. -/
import Derived.Test.YtedpfdflolkpeaaGreatDoorVoE
set_option linter.unusedSimpArgs false
set_option linter.unusedVariables false
set_option linter.unnecessarySimpa false
set_option maxRecDepth 100000
namespace Go.Proofs.YtedpfdflolkpeaaGreatDoor
open Go.AM

/-- What is none of the shards'. -/
def fr (ow : Nat → Nat → Nat) (j : Nat) : Prop := ∀ k, k < 16 → ow k j = 0
/-- Who owns what, behind something quiet. -/
def cutO (ow : Nat → Nat → Nat) (h : AHeap) : Nat → Nat → Nat := fun k j => if j < h.next then ow k j else 0
/-- .. behind a step of one shard. -/
def stepO (ow : Nat → Nat → Nat) (h : AHeap) (k : Nat) (o' : Nat → Nat) : Nat → Nat → Nat := fun l j => if l = k then o' j else if j < h.next then ow l j else 0
/-- What stays: what is none of the shards', but for the volume. -/
def VKs (id : Nat) (ow : Nat → Nat → Nat) (h : AHeap) (ow' : Nat → Nat → Nat) (h' : AHeap) : Prop :=
  h.next ≤ h'.next ∧ ∀ j, j < h.next → (∀ k, k < 16 → ow' k j = ow k j) ∧ (fr ow j → j ≠ id → h'.get j = h.get j)
def volC (v : Vm) (pv sv : Value) : List Value := [.int .i64 v.mp.ver, .int .i64 v.mp.n, pv, sv]
def shL (ids : Nat → Nat) : List (Option Nat) := (List.range 16).map fun k => some (ids k)
structure VC (ow : Nat → Nat → Nat) (h : AHeap) (id : Nat) (v : Vm) (pv sv : Value) (ids : Nat → Nat) : Prop where
  get : h.get id = .cells (volC v pv sv) .rw
  own : fr ow id
  pcs : IsSl Pl.rPiece (fun j => fr ow j ∧ j ≠ id) h v.mp.ps pv
  shs : IsSl Rep.ptr (fun j => fr ow j ∧ j ≠ id) h (shL ids) sv
  sat : ∀ k, k < 16 → ShAt (ow k) h (ids k) (v.sh k)
  dis : ∀ k, k < 16 → ∀ l, l < 16 → k ≠ l → ∀ j, j < h.next → ow k j ≠ 0 → ow l j = 0
def VAt (ow : Nat → Nat → Nat) (h : AHeap) (id : Nat) (v : Vm) : Prop := ∃ pv sv ids, VC ow h id v pv sv ids

section
variable {ow ow' ow'' : Nat → Nat → Nat} {h h' h'' : AHeap} {id : Nat} {v : Vm}
theorem VKs.refl : VKs id ow h ow h := ⟨Nat.le_refl _, fun _ _ => ⟨fun _ _ => rfl, fun _ _ => rfl⟩⟩
theorem VKs.trans (a : VKs id ow h ow' h') (b : VKs id ow' h' ow'' h'') : VKs id ow h ow'' h'' :=
  ⟨Nat.le_trans a.1 b.1, fun j hj => ⟨fun k hk => ((b.2 j (Nat.lt_of_lt_of_le hj a.1)).1 k hk).trans ((a.2 j hj).1 k hk), fun hf hn =>
    ((b.2 j (Nat.lt_of_lt_of_le hj a.1)).2 (fun k hk => ((a.2 j hj).1 k hk).trans (hf k hk)) hn).trans ((a.2 j hj).2 hf hn)⟩⟩
theorem VKs.of_quiet (q : h.quiet h') : VKs id ow h (cutO ow h) h' := ⟨q.1, fun j hj => ⟨fun k _ => if_pos hj, fun _ _ => q.2 j hj⟩⟩
theorem cutO_lt {k j : Nat} (hj : j < h.next) : cutO ow h k j = ow k j := if_pos hj
theorem cutO_ge {j : Nat} (hj : h.next ≤ j) : fr (cutO ow h) j := fun k _ => if_neg (by omega)
theorem fr_cut {j : Nat} (hj : fr ow j) : fr (cutO ow h) j := fun k hk => by unfold cutO; split; exact hj k hk; rfl
theorem VKs.fr (a : VKs id ow h ow' h') {j : Nat} (hj : j < h.next) (hf : Proofs.YtedpfdflolkpeaaGreatDoor.fr ow j) : Proofs.YtedpfdflolkpeaaGreatDoor.fr ow' j := fun k hk => ((a.2 j hj).1 k hk).trans (hf k hk)
/-- Objects that are none of the shards' stand. -/
theorem VKs.same (a : VKs id ow h ow' h') : ∀ j, (Proofs.YtedpfdflolkpeaaGreatDoor.fr ow j ∧ j ≠ id) → j < h.next → (Proofs.YtedpfdflolkpeaaGreatDoor.fr ow' j ∧ j ≠ id) ∧ h'.get j = h.get j := fun j hj hl => ⟨⟨a.fr hl hj.1, hj.2⟩, (a.2 j hl).2 hj.1 hj.2⟩
theorem VC.lt {pv sv : Value} {ids : Nat → Nat} (c : VC ow h id v pv sv ids) : id < h.next := AHeap.lt_of_alive h (by rw [c.get]; simp)
theorem VAt.lt (a : VAt ow h id v) : id < h.next := by obtain ⟨_, _, _, c⟩ := a; exact c.lt

/-- The volume behind something that turned none of its own. -/
theorem VC.keep {pv sv : Value} {ids : Nat → Nat} (c : VC ow h id v pv sv ids) (k : VKs id ow h ow' h') (hg : h'.get id = h.get id) (hs : ∀ k, k < 16 → ShAt (ow' k) h' (ids k) (v.sh k))
    (hd : ∀ k, k < 16 → ∀ l, l < 16 → k ≠ l → ∀ j, j < h'.next → ow' k j ≠ 0 → ow' l j = 0) : VC ow' h' id v pv sv ids :=
  ⟨hg.trans c.get, k.fr c.lt c.own, c.pcs.mono k.same, c.shs.mono k.same, hs, hd⟩
theorem VC.quiet {pv sv : Value} {ids : Nat → Nat} (c : VC ow h id v pv sv ids) (q : h.quiet h') : VC (cutO ow h) h' id v pv sv ids := by
  refine c.keep (.of_quiet q) (q.2 _ c.lt) (fun k hk => (c.sat k hk).ks (T := fun _ => False) ⟨q.1, fun j hj => ⟨cutO_lt hj, fun _ => q.2 j hj⟩⟩ (fun _ e => e.elim) (fun e => e)) fun k hk l hl hne j hj h0 => ?_
  by_cases hj2 : j < h.next
  · rw [cutO_lt hj2] at h0 ⊢; exact c.dis k hk l hl hne j hj2 h0
  · exact cutO_ge (by omega) l hl
theorem VAt.quiet (a : VAt ow h id v) (q : h.quiet h') : VAt (cutO ow h) h' id v := by
  obtain ⟨pv, sv, ids, c⟩ := a; exact ⟨pv, sv, ids, c.quiet q⟩
/-- A step of one shard. -/
theorem VC.step {pv sv : Value} {ids : Nat → Nat} (c : VC ow h id v pv sv ids) {k : Nat} (hk : k < 16) {o' : Nat → Nat} {m : Sm} (s : Ks shT (ow k) h o' h') (ha : ShAt o' h' (ids k) m) :
    VC (stepO ow h k o') h' id (v.set k m) pv sv ids ∧ VKs id ow h (stepO ow h k o') h' := by
  have sT : ∀ j, ow k j = 0 → ¬ shT (ow k j) := fun j e => by rw [e]; unfold shT; omega
  have vk : VKs id ow h (stepO ow h k o') h' := ⟨s.1, fun j hj => ⟨fun l hl => by
    unfold stepO
    by_cases e : l = k
    · rw [if_pos e, e]; exact (s.2 j hj).1
    · rw [if_neg e, if_pos hj], fun hf _ => (s.2 j hj).2 (sT j (hf k hk))⟩⟩
  refine ⟨⟨?_, vk.fr c.lt c.own, c.pcs.mono vk.same, c.shs.mono vk.same, fun l hl => ?_, fun a ha' b hb hne j hj h0 => ?_⟩, vk⟩
  · rw [(s.2 _ c.lt).2 (sT _ (c.own k hk)), c.get]; rfl
  · by_cases e : l = k
    · subst e; rw [v.set_eq]
      have : stepO ow h l o' l = o' := by funext j; exact if_pos rfl
      rw [this]; exact ha
    · rw [v.set_ne e]
      refine (c.sat l hl).ks (T := (· = 0)) ⟨s.1, fun j hj => ⟨by unfold stepO; rw [if_neg e, if_pos hj], fun h0 => ?_⟩⟩ (fun t e => by subst e; decide) (by decide)
      have h0' : ow k j = 0 := c.dis l hl k hk e j hj h0
      exact (s.2 j hj).2 (sT j h0')
  · unfold stepO at h0 ⊢
    by_cases hjn : j < h.next
    · simp only [hjn, if_true] at h0 ⊢
      have e1 : (if a = k then o' j else ow a j) = ow a j := by split; rename_i e; rw [e]; exact (s.2 j hjn).1; rfl
      have e2 : (if b = k then o' j else ow b j) = ow b j := by split; rename_i e; rw [e]; exact (s.2 j hjn).1; rfl
      rw [e1] at h0; rw [e2]
      exact c.dis a ha' b hb hne j hjn h0
    · simp only [hjn, if_false] at h0 ⊢
      by_cases ea : a = k
      · rw [if_neg (fun eb => hne (ea.trans eb.symm))]
      · rw [if_neg ea] at h0; exact absurd rfl h0
/-- The map is turned. -/
theorem VC.turn {pv sv : Value} {ids : Nat → Nat} (c : VC ow h id v pv sv ids) {m : Pl.SMap} {pv' : Value} (hp : IsSl Pl.rPiece (fun j => fr ow j ∧ j ≠ id) h m.ps pv') :
    VC ow (h.set id (.cells [.int .i64 m.ver, .int .i64 m.n, pv', sv] .rw)) id { v with mp := m } pv' sv ids ∧ VKs id ow h ow (h.set id (.cells [.int .i64 m.ver, .int .i64 m.n, pv', sv] .rw)) := by
  have vk : VKs id ow h ow (h.set id (.cells [.int .i64 m.ver, .int .i64 m.n, pv', sv] .rw)) := ⟨by simp, fun j _ => ⟨fun _ _ => rfl, fun _ hn => AHeap.get_set_ne _ _ (Ne.symm hn)⟩⟩
  refine ⟨⟨AHeap.get_set_self _ _ c.lt, c.own, hp.mono vk.same, c.shs.mono vk.same, fun k hk => ?_, fun k hk l hl hne j hj => c.dis k hk l hl hne j (by simpa using hj)⟩, vk⟩
  exact (c.sat k hk).ks (T := (· = 0)) (.set (c.own k hk) _) (fun t e => by subst e; decide) (by decide)

/-! What a walk reads of it. -/
theorem ptr_iff {S : Nat → Prop} {x : Option Nat} {c : List Value} : Rep.ptr.R S h x c ↔ c = [.pointer (x.map fun id => ⟨id, 0, none⟩)] := Iff.rfl
theorem VC.shat {pv : Value} {a : Option Addr} {n cap : Nat} {ids : Nat → Nat} (c : VC ow h id v pv (.slice a n cap) ids) {k : Nat} (hk : k < 16) :
    n = 16 ∧ ∃ b off sp cc md, a = some ⟨b, off, sp⟩ ∧ h.get b = .cells cc md ∧ cc[off + k]? = some (.pointer (some ⟨ids k, 0, none⟩)) := by
  have hl := c.shs.len
  have hn : n = 16 := by rw [hl.1]; simp [shL]
  refine ⟨hn, ?_⟩
  obtain ⟨b, off, sp, cc, md, w, x, h1, h2, h3, h4, h5, h6⟩ := c.shs.at1 rfl (i := k) (by omega)
  have : x = some (ids k) := by
    unfold shL at h4
    rw [List.getElem?_map, List.getElem?_range hk] at h4
    cases h4; rfl
  subst this
  have := (ptr_iff (h := h) (S := fun j => fr ow j ∧ j ≠ id)).1 h5
  cases this
  exact ⟨b, off, sp, cc, md, h1, h3, h6⟩

theorem vok_ok (a : VAt ow h id v) : Does Tryz.prog 38 #[.pointer (some ⟨id, 0, none⟩)] h (fun u h' => u = .bool true ∧ h' = h) := by
  obtain ⟨pv, sv, ids, c⟩ := a
  obtain ⟨asv, csv, rfl⟩ := c.shs.shape
  have hg := c.get
  have hn : (shL ids).length = 16 := by simp [shL]
  unfold volC at hg
  rw [hn] at hg
  refine spec_go mixed Tryz.func38 rfl Tryz.results38 (n := Tryz.f38.ntmps) (by kernel_rfl) (by simp) ?_
  simp only [go_sem, simprocAttr, hg]
theorem late_ok (a : VAt ow h id v) {ver : Int} : Does Tryz.prog 40 #[.pointer (some ⟨id, 0, none⟩), .int .i64 ver] h (fun u h' => u = .int .i64 (if ver ≠ v.mp.ver then 13 else 0) ∧ h' = h) := by
  refine spec_go mixed Tryz.func40 rfl Tryz.results40 (n := Tryz.f40.ntmps) (by kernel_rfl) (by simp) ?_
  simp only [go_sem, simprocAttr]
  refine cl_spec (vok_ok a) (fun _ _ _ hc => absurd hc (by decide +kernel)) ?_
  rintro u k ⟨rfl, rfl⟩
  obtain ⟨pv, sv, ids, c⟩ := a
  have hg := c.get
  unfold volC at hg
  by_cases hv : ver = v.mp.ver
  · rw [if_neg (fun e => e hv)]
    simp only [go_sem, simprocAttr, hg, hv]
  · rw [if_pos hv]
    simp only [go_sem, simprocAttr, hg, hv]
theorem vfind_ok (a : VAt ow h id v) {node : Int} : Does Tryz.prog 49 #[.pointer (some ⟨id, 0, none⟩), .int .i64 node] h (fun u h' => h' = h ∧ ((¬ (0 ≤ node ∧ node < 16) ∧ u = .tuple #[.pointer none, .int .i64 9]) ∨ ∃ (k : Nat) (pv sv : Value) (ids : Nat → Nat), k < 16 ∧ node = (k : Int) ∧ VC ow h id v pv sv ids ∧ u = .tuple #[.pointer (some ⟨ids k, 0, none⟩), .int .i64 0])) := by
  refine spec_go mixed Tryz.func49 rfl Tryz.results49 (n := Tryz.f49.ntmps) (by kernel_rfl) (by simp) ?_
  simp only [go_sem, simprocAttr]
  refine cl_spec (vok_ok a) (fun _ _ _ hc => absurd hc (by decide +kernel)) ?_
  rintro u k ⟨rfl, rfl⟩
  obtain ⟨pv, sv, ids, c⟩ := a
  obtain ⟨asv, csv, rfl⟩ := c.shs.shape
  have hg := c.get
  have hn : (shL ids).length = 16 := by simp [shL]
  unfold volC at hg
  by_cases h1 : node < 0
  · simp only [go_sem, simprocAttr, hg, h1, decide_true]
    exact .inl (by omega)
  · by_cases h2 : node < 16
    · have h2' : ¬ (((shL ids).length : Nat) : Int) ≤ node := by omega
      obtain ⟨_, b, off, sp, cc, md, rfl, g1, g2⟩ := c.shat (k := node.toNat) (by omega)
      have h3 : node.toNat < (shL ids).length := by omega
      have h4 : 0 ≤ node := by omega
      have h5 : node < ((shL ids).length : Nat) := by omega
      simp only [go_sem, simprocAttr, hg, h1, h2', h3, h4, h5, g1, g2, decide_false]
      exact .inr ⟨node.toNat, _, _, ids, by omega, by omega, c, rfl⟩
    · have h2' : (((shL ids).length : Nat) : Int) ≤ node := by omega
      simp only [go_sem, simprocAttr, hg, h1, h2', decide_true, decide_false]
      exact .inl (by omega)
end
end Go.Proofs.YtedpfdflolkpeaaGreatDoor
