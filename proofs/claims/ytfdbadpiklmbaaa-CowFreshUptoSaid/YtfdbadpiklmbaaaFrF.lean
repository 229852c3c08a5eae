/- cow: Fresh: the nodes of the one that the other has not. -/
import Derived.Test.YtfdbadpiklmbaaaFrE
set_option linter.unusedSimpArgs false
set_option linter.unusedVariables false
set_option linter.unnecessarySimpa false
set_option maxRecDepth 100000
namespace Go.Proofs.Ytfdbadpiklmbaaa
open Go.AM
def ptN (id : Nat) : Value := .pointer (some ⟨id, 0, none⟩)
theorem ptN_inj {a b : Nat} : ptN a = ptN b ↔ a = b := by simp [ptN]
section
variable {own own' own'' : Nat → Nat} {h h' h'' h0 : AHeap} {S S' Z : Nat → Prop} {id : Nat} {ts : List T} {ps : List (Option Nat)} {v : Value}
def isRw (h : AHeap) (j : Nat) : Prop := ∃ c, h.get j = .cells c .rw
theorem aeq_nodes {a b : Nat} (ha : isRw h a) (hb : isRw h b) : aequal Try.prog h 68 (ptN a) (ptN b) = some (decide (a = b)) := by
  obtain ⟨c, ha⟩ := ha
  obtain ⟨d, hb⟩ := hb
  by_cases e : a = b
  · subst e
    simp [ptN, aequal, aeq, Try.underlying68, tc90, ti90]
  · simp [ptN, aequal, aeq, Try.underlying68, tc90, ti90, e, ha, hb]
/-- Nodes met. -/
def MpAt (h : AHeap) (m : Nat) (K : Nat → Prop) : Prop := ∃ es clock, h.get m = .map es clock ∧ (∀ e ∈ es, ∃ j, e.key = ptN j ∧ e.val = .bool true ∧ K j) ∧ ∀ j, K j → ∃ e ∈ es, e.key = ptN j
theorem find_nodes {a : Nat} (ha : isRw h a) : ∀ (es : List MapEntry) (i : Nat), (∀ e ∈ es, ∃ j, e.key = ptN j ∧ e.val = .bool true ∧ isRw h j) →
    (∃ k e, afindP Try.prog h 68 (ptN a) es i = some (some (i + k, .bool true)) ∧ es[k]? = some e ∧ e.key = ptN a ∧ e.val = .bool true) ∨ (afindP Try.prog h 68 (ptN a) es i = some none ∧ ∀ e ∈ es, e.key ≠ ptN a)
  | [], i, _ => .inr ⟨rfl, by simp⟩
  | e :: es, i, hk => by
    obtain ⟨j, k1, k2, k3⟩ := hk e (by simp)
    unfold afindP
    rw [k1, aeq_nodes ha k3]
    by_cases c : a = j
    · subst c
      exact .inl ⟨0, e, by simp [k2], by simp, k1, k2⟩
    · rcases find_nodes ha es (i + 1) (fun e he => hk e (by simp [he])) with ⟨k, e', f1, f2, f3⟩ | ⟨f1, f2⟩
      · refine .inl ⟨k + 1, e', ?_, by simpa using f2, f3⟩
        simp only [c, decide_false]
        rw [f1, show i + 1 + k = i + (k + 1) by omega]
      · refine .inr ⟨?_, fun e' he => ?_⟩
        · simp only [c, decide_false]
          exact f1
        · rcases List.mem_cons.1 he with rfl | he
          · rw [k1]; exact fun q => c (ptN_inj.1 q).symm
          · exact f2 e' he
theorem modify_same {es : List MapEntry} {k : Nat} {e : MapEntry} {ky : Value} (h1 : es[k]? = some e) (h2 : e.key = ky) (h3 : e.val = .bool true) : es.modify k (fun e => { e with key := ky, val := .bool true }) = es := by
  apply List.ext_getElem?
  intro i
  rw [List.getElem?_modify]
  by_cases c : k = i
  · subst c
    rw [h1]
    obtain ⟨a, b, d⟩ := e
    simp only at h2 h3
    subst h2 h3
    simp
  · simp only [c, if_false]
    cases es[i]? <;> rfl
theorem met_ok {a cm m : Nat} {K : Nat → Prop} (hc : h.get cm = .cells [.map (some m)] .rw) (hm : MpAt h m K) (hK : ∀ j, K j → isRw h j) (ha : isRw h a) :
    Does Try.prog 48 #[ptN a, ptN cm] h (fun u h' => u = .tuple #[] ∧ h'.next = h.next ∧ (∀ j, j ≠ m → h'.get j = h.get j) ∧ MpAt h' m (fun j => K j ∨ j = a)) := by
  obtain ⟨es, clock, hg, k1, k2⟩ := hm
  have lm : m < h.next := AHeap.lt_of_alive h (by rw [hg]; simp)
  have hf := find_nodes ha es 0 fun e he => by obtain ⟨j, h1, h2, h3⟩ := k1 e he; exact ⟨j, h1, h2, hK j h3⟩
  rcases hf with ⟨k, e, f1, f2, f3, f4⟩ | ⟨f1, f2⟩
  · have f1' : afindP Try.prog h 68 (.pointer (some ⟨a, 0, none⟩)) es 0 = some (some (0 + k, .bool true)) := f1
    have ms := modify_same f2 f3 f4
    have hu : amapUpdateP Try.prog h 86 (.map (some m)) (some ⟨a, 0, none⟩) (.bool true) = some (h.set m (.map es clock)) := by
      simp only [amapUpdateP, Try.underlying86, Try.underlying68, hg, f1', Nat.zero_add]
      rw [show (fun e : MapEntry => ({ e with key := .pointer (some ⟨a, 0, none⟩), val := .bool true } : MapEntry)) = (fun e => { e with key := ptN a, val := .bool true }) from rfl, ms]
    unfold ptN
    refine spec_go mixed Try.func48 rfl Try.results48 (n := Try.f48.ntmps) (by kernel_rfl) (by simp) ?_
    simp only [go_sem, simprocAttr, hc, hu]
    refine ⟨fun j hj => AHeap.get_set_ne _ _ (Ne.symm hj), es, clock, AHeap.get_set_self _ _ lm, fun e he => ?_, fun j hj => ?_⟩
    · obtain ⟨j, h1, h2, h3⟩ := k1 e he
      exact ⟨j, h1, h2, .inl h3⟩
    · rcases hj with hj | rfl
      · exact k2 j hj
      · exact ⟨e, List.mem_of_getElem? f2, f3⟩
  · have f1' : afindP Try.prog h 68 (.pointer (some ⟨a, 0, none⟩)) es 0 = some none := f1
    have hu : amapUpdateP Try.prog h 86 (.map (some m)) (some ⟨a, 0, none⟩) (.bool true) = some (h.set m (.map (es ++ [{ key := .pointer (some ⟨a, 0, none⟩), val := .bool true, born := clock }]) (clock + 1))) := by
      simp only [amapUpdateP, Try.underlying86, Try.underlying68, hg, f1']
    unfold ptN
    refine spec_go mixed Try.func48 rfl Try.results48 (n := Try.f48.ntmps) (by kernel_rfl) (by simp) ?_
    simp only [go_sem, simprocAttr, hc, hu]
    refine ⟨fun j hj => AHeap.get_set_ne _ _ (Ne.symm hj), _, _, AHeap.get_set_self _ _ lm, fun e he => ?_, fun j hj => ?_⟩
    · rcases List.mem_append.1 he with he | he
      · obtain ⟨j, h1, h2, h3⟩ := k1 e he
        exact ⟨j, h1, h2, .inl h3⟩
      · obtain rfl : e = _ := by simpa using he
        exact ⟨a, rfl, rfl, .inr rfl⟩
    · rcases hj with hj | rfl
      · obtain ⟨e, h1, h2⟩ := k2 j hj
        exact ⟨e, List.mem_append_left _ h1, h2⟩
      · exact ⟨_, List.mem_append_right _ (List.mem_singleton.2 rfl), rfl⟩
theorem count_ok {a cm m cn : Nat} {K : Nat → Prop} [DecidablePred K] {n : Nat} (hn : n ≤ 1099511627776) (hc : h.get cm = .cells [.map (some m)] .rw) (hm : MpAt h m K) (hK : ∀ j, K j → isRw h j) (ha : isRw h a) (hg2 : h.get cn = .cells [.int .i64 n] .rw) :
    Does Try.prog 49 #[ptN a, ptN cm, ptN cn] h (fun u h' => u = .tuple #[] ∧ h'.next = h.next ∧ (∀ j, j ≠ cn → h'.get j = h.get j) ∧ h'.get cn = .cells [.int .i64 ((n + if K a then 0 else 1 : Nat) : Int)] .rw) := by
  obtain ⟨es, clock, hg, k1, k2⟩ := hm
  have lc : cn < h.next := AHeap.lt_of_alive h (by rw [hg2]; simp)
  have hf := find_nodes ha es 0 fun e he => by obtain ⟨j, h1, h2, h3⟩ := k1 e he; exact ⟨j, h1, h2, hK j h3⟩
  rcases hf with ⟨k, e, f1, f2, f3, f4⟩ | ⟨f1, f2⟩
  · have f1' : afindP Try.prog h 68 (.pointer (some ⟨a, 0, none⟩)) es 0 = some (some (0 + k, .bool true)) := f1
    have hu : alookupP Try.prog h 86 (.map (some m)) (some ⟨a, 0, none⟩) false = some (.bool true) := by
      simp only [alookupP, Try.underlying86, Try.underlying68, ty4, hg, f1']; rfl
    have kA : K a := by
      obtain ⟨j, h1, _, h3⟩ := k1 e (List.mem_of_getElem? f2)
      rw [f3] at h1; rw [ptN_inj.1 h1]; exact h3
    unfold ptN
    refine spec_go mixed Try.func49 rfl Try.results49 (n := Try.f49.ntmps) (by kernel_rfl) (by simp) ?_
    simp only [go_sem, simprocAttr, hc, hu]
    simp only [kA, if_true, Nat.add_zero]
    exact ⟨fun _ _ => trivial, hg2⟩
  · have f1' : afindP Try.prog h 68 (.pointer (some ⟨a, 0, none⟩)) es 0 = some none := f1
    have hu : alookupP Try.prog h 86 (.map (some m)) (some ⟨a, 0, none⟩) false = some (.bool false) := by
      simp only [alookupP, Try.underlying86, Try.underlying68, ty4, hg, f1']; rfl
    have kA : ¬ K a := fun q => by obtain ⟨e, h1, h2⟩ := k2 a q; exact f2 e h1 h2
    have e1 : IntKind.i64.wrap ((n : Int) + 1) = ((n + 1 : Nat) : Int) := by rw [wi64] <;> omega
    unfold ptN
    refine spec_go mixed Try.func49 rfl Try.results49 (n := Try.f49.ntmps) (by kernel_rfl) (by simp) ?_
    simp only [go_sem, simprocAttr, hc, hu, hg2, e1]
    simp only [kA, if_false]
    exact ⟨fun j hj => AHeap.get_set_ne _ _ (Ne.symm hj), AHeap.get_set_self _ _ lc⟩
theorem IdAt.rwk {t : T} {v : Value} {L : List Nat} (i : IdAt h t v L) {j : Nat} (hj : j ∈ L) : isRw h j := i.rw j hj
/-- All nodes are met. -/
theorem each1_ok {cm m : Nat} : ∀ (t : T) {h : AHeap} {v : Value} {L : List Nat} {K : Nat → Prop} (i : IdAt h t v L) (hc : h.get cm = .cells [.map (some m)] .rw) (hm : MpAt h m K) (hK : ∀ j, K j → isRw h j),
    Does Try.prog 47 #[v, .func (.func 48) #[] #[ptN cm]] h (fun u h' => u = .tuple #[] ∧ h'.next = h.next ∧ (∀ j, j ≠ m → h'.get j = h.get j) ∧ MpAt h' m (fun j => K j ∨ j ∈ L)) := by
  intro t
  induction t with
  | nil =>
    intro h v L K i hc hm hK
    obtain ⟨rfl, rfl⟩ := i
    refine spec_go mixed Try.func47 rfl Try.results47 (n := Try.f47.ntmps) (by kernel_rfl) (by simp) ?_
    simp only [go_sem, simprocAttr]
    simpa using hm
  | node l x r ihl ihr =>
    intro h v L K i hc hm hK
    have iN := i
    obtain ⟨id, pl, pr, L1, L2, rfl, hg, hl, hr, rfl⟩ := i
    have nm : ∀ {h : AHeap} {K : Nat → Prop}, MpAt h m K → ∀ j, isRw h j → j ≠ m := fun {h K} hm j ⟨c, e⟩ q => by obtain ⟨es, ck, e2, _⟩ := hm; rw [q, e2] at e; cases e
    have pL := iN
    obtain ⟨pl, rfl⟩ : ∃ p, pl = .pointer p := by cases l with | nil => exact ⟨_, hl.1⟩ | node a b c => obtain ⟨_, _, _, _, _, e, _⟩ := hl; exact ⟨_, e⟩
    obtain ⟨pr, rfl⟩ : ∃ p, pr = .pointer p := by cases r with | nil => exact ⟨_, hr.1⟩ | node a b c => obtain ⟨_, _, _, _, _, e, _⟩ := hr; exact ⟨_, e⟩
    refine spec_go mixed Try.func47 rfl Try.results47 (n := Try.f47.ntmps) (by kernel_rfl) (by simp) ?_
    simp only [go_sem, simprocAttr, hg, nodeC]
    refine cl_spec (ihl hl hc hm hK) (fun _ _ _ hc => absurd hc (by decide +kernel)) ?_
    rintro u k ⟨rfl, n1, g1, m1⟩
    have K1 : ∀ j, (K j ∨ j ∈ L1) → isRw k j := fun j hj => by
      have q : isRw h j := hj.elim (hK j) fun e => iN.rwk (List.mem_append_left _ e)
      obtain ⟨c, e⟩ := q
      exact ⟨c, (g1 j (nm hm j ⟨c, e⟩)).trans e⟩
    have gi : k.get id = _ := (g1 id (nm hm id ⟨_, hg⟩)).trans hg
    have c1 : k.get cm = _ := (g1 cm (nm hm cm ⟨_, hc⟩)).trans hc
    have i1 : IdAt k r (.pointer pr) L2 := hr.keep fun j hj => g1 j (nm hm j (hr.rwk hj))
    simp only [go_sem, simprocAttr]
    refine cl_spec (met_ok (a := id) c1 m1 K1 ⟨_, gi⟩) (fun _ _ _ hc => absurd hc (by decide +kernel)) ?_
    rintro u k2 ⟨rfl, n2, g2, m2⟩
    have K2 : ∀ j, ((K j ∨ j ∈ L1) ∨ j = id) → isRw k2 j := fun j hj => by
      have q : isRw k j := hj.elim (K1 j) fun e => e ▸ ⟨_, gi⟩
      obtain ⟨c, e⟩ := q
      exact ⟨c, (g2 j (nm m1 j ⟨c, e⟩)).trans e⟩
    have gi2 : k2.get id = _ := (g2 id (nm m1 id ⟨_, gi⟩)).trans gi
    have c2 : k2.get cm = _ := (g2 cm (nm m1 cm ⟨_, c1⟩)).trans c1
    have i2 : IdAt k2 r (.pointer pr) L2 := i1.keep fun j hj => g2 j (nm m1 j (i1.rwk hj))
    simp only [go_sem, simprocAttr, gi2, nodeC]
    refine cl_spec (ihr i2 c2 m2 K2) (fun _ _ _ hc => absurd hc (by decide +kernel)) ?_
    rintro u k3 ⟨rfl, n3, g3, m3⟩
    simp only [go_sem, simprocAttr]
    refine ⟨by omega, fun j hj => (g3 j hj).trans ((g2 j hj).trans (g1 j hj)), ?_⟩
    have eK : (fun j => ((K j ∨ j ∈ L1) ∨ j = id) ∨ j ∈ L2) = fun j => K j ∨ j ∈ L1 ++ id :: L2 := by
      funext j
      simp only [List.mem_append, List.mem_cons, or_assoc]
    rw [← eK]
    exact m3
/-- Those that are not are told. -/
theorem each2_ok {cm m cn : Nat} {K : Nat → Prop} [DecidablePred K] : ∀ (t : T) {h : AHeap} {v : Value} {L : List Nat} {n : Nat} (hn : n + L.length ≤ 1099511627776) (i : IdAt h t v L) (hne : ∀ j ∈ L, j ≠ cn) (hcm : cm ≠ cn) (hKn : ¬ K cn) (hc : h.get cm = .cells [.map (some m)] .rw) (hm : MpAt h m K) (hK : ∀ j, K j → isRw h j) (hg2 : h.get cn = .cells [.int .i64 n] .rw),
    Does Try.prog 47 #[v, .func (.func 49) #[] #[ptN cm, ptN cn]] h (fun u h' => u = .tuple #[] ∧ h'.next = h.next ∧ (∀ j, j ≠ cn → h'.get j = h.get j) ∧ h'.get cn = .cells [.int .i64 ((n + (L.filter fun j => !decide (K j)).length : Nat) : Int)] .rw) := by
  intro t
  induction t with
  | nil =>
    intro h v L n hn i hne hcm hKn hc hm hK hg2
    obtain ⟨rfl, rfl⟩ := i
    refine spec_go mixed Try.func47 rfl Try.results47 (n := Try.f47.ntmps) (by kernel_rfl) (by simp) ?_
    simp only [go_sem, simprocAttr]
    simpa using hg2
  | node l x r ihl ihr =>
    intro h v L n hn i hne hcm hKn hc hm hK hg2
    have iN := i
    obtain ⟨id, pl, pr, L1, L2, rfl, hg, hl, hr, rfl⟩ := i
    have mv : ∀ {h h' : AHeap}, (∀ j, j ≠ cn → h'.get j = h.get j) → h.get cn = .cells [.int .i64 n] .rw ∨ True → MpAt h m K → isRw h cn → (∀ j, K j → isRw h j) → MpAt h' m K ∧ ∀ j, K j → isRw h' j := fun {h h'} g _ hm hcn hK => by
      obtain ⟨es, ck, e1, e2, e3⟩ := hm
      have mn : m ≠ cn := fun q => by obtain ⟨c, e⟩ := hcn; rw [← q, e1] at e; cases e
      refine ⟨⟨es, ck, (g m mn).trans e1, e2, e3⟩, fun j hj => ?_⟩
      obtain ⟨c, e⟩ := hK j hj
      exact ⟨c, (g j (fun q => hKn (q ▸ hj))).trans e⟩
    have lens : (L1 ++ id :: L2).length = L1.length + (L2.length + 1) := by simp
    obtain ⟨pl, rfl⟩ : ∃ p, pl = .pointer p := by cases l with | nil => exact ⟨_, hl.1⟩ | node a b c => obtain ⟨_, _, _, _, _, e, _⟩ := hl; exact ⟨_, e⟩
    obtain ⟨pr, rfl⟩ : ∃ p, pr = .pointer p := by cases r with | nil => exact ⟨_, hr.1⟩ | node a b c => obtain ⟨_, _, _, _, _, e, _⟩ := hr; exact ⟨_, e⟩
    have nid : id ≠ cn := hne id (by simp)
    refine spec_go mixed Try.func47 rfl Try.results47 (n := Try.f47.ntmps) (by kernel_rfl) (by simp) ?_
    simp only [go_sem, simprocAttr, hg, nodeC]
    refine cl_spec (ihl (by omega) hl (fun j hj => hne j (by simp [hj])) hcm hKn hc hm hK hg2) (fun _ _ _ hc => absurd hc (by decide +kernel)) ?_
    rintro u k ⟨rfl, n1, g1, m1⟩
    obtain ⟨hm1, hK1⟩ := mv g1 (.inr trivial) hm ⟨_, hg2⟩ hK
    have gi : k.get id = _ := (g1 id nid).trans hg
    have c1 : k.get cm = _ := (g1 cm hcm).trans hc
    have i1 : IdAt k r (.pointer pr) L2 := hr.keep fun j hj => g1 j (hne j (by simp [hj]))
    have ll : (L1.filter fun j => !decide (K j)).length ≤ L1.length := List.length_filter_le _ _
    simp only [go_sem, simprocAttr]
    refine cl_spec (count_ok (a := id) (by omega) c1 hm1 hK1 ⟨_, gi⟩ m1) (fun _ _ _ hc => absurd hc (by decide +kernel)) ?_
    rintro u k2 ⟨rfl, n2, g2, m2⟩
    obtain ⟨hm2, hK2⟩ := mv g2 (.inr trivial) hm1 ⟨_, m1⟩ hK1
    have gi2 : k2.get id = _ := (g2 id nid).trans gi
    have c2 : k2.get cm = _ := (g2 cm hcm).trans c1
    have i2 : IdAt k2 r (.pointer pr) L2 := i1.keep fun j hj => g2 j (hne j (by simp [hj]))
    simp only [go_sem, simprocAttr, gi2, nodeC]
    have one : (if K id then 0 else 1) ≤ 1 := by split <;> omega
    refine cl_spec (ihr (by omega) i2 (fun j hj => hne j (by simp [hj])) hcm hKn c2 hm2 hK2 m2) (fun _ _ _ hc => absurd hc (by decide +kernel)) ?_
    rintro u k3 ⟨rfl, n3, g3, m3⟩
    simp only [go_sem, simprocAttr]
    refine ⟨by omega, fun j hj => (g3 j hj).trans ((g2 j hj).trans (g1 j hj)), ?_⟩
    rw [m3, List.filter_append, List.filter_cons, List.length_append]
    by_cases c : K id
    · simp only [c, if_true, decide_true, Bool.not_true, Bool.false_eq_true, if_false]
      rw [show n + (L1.filter fun j => !decide (K j)).length + 0 + (L2.filter fun j => !decide (K j)).length = n + ((L1.filter fun j => !decide (K j)).length + (L2.filter fun j => !decide (K j)).length) by omega]
    · simp only [c, if_false, decide_false, Bool.not_false, if_true, List.length_cons]
      rw [show n + (L1.filter fun j => !decide (K j)).length + 1 + (L2.filter fun j => !decide (K j)).length = n + ((L1.filter fun j => !decide (K j)).length + ((L2.filter fun j => !decide (K j)).length + 1)) by omega]
end
end Go.Proofs.Ytfdbadpiklmbaaa
