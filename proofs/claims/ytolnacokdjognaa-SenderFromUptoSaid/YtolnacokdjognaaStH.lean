/- stream: the reader. -/
import Derived.Test.YtolnacokdjognaaStG
set_option linter.unusedSimpArgs false
set_option linter.unusedVariables false
set_option linter.unnecessarySimpa false
set_option maxRecDepth 100000
namespace Go.Proofs.Ytolnacokdjognaa
open Go.AM
inductive Nx where
  | wait
  | bad (e : Int)
  | got (r : Rec) (n : Nat)
def nextN (b : List Nat) : Nx :=
  if b.length < 8 then .wait else if 700 < leN (b.take 8) then .bad 6 else if b.length < 8 + leN (b.take 8) then .wait else
    match decodeN ((b.drop 8).take (leN (b.take 8))) with
    | .error e => .bad e
    | .ok r => .got r (8 + leN (b.take 8))
def readN : Nat → List Nat → List Rec × List Nat × Int
  | 0, b => ([], b, 0)
  | f + 1, b => match nextN b with
    | .wait => ([], b, 0)
    | .bad e => ([], [], e)
    | .got r n => (r :: (readN f (b.drop n)).1, (readN f (b.drop n)).2)
def readA (b : List Nat) : List Rec × List Nat × Int := readN (b.length + 1) b
theorem got_n {b : List Nat} {r : Rec} {n : Nat} (h : nextN b = .got r n) : 8 ≤ n ∧ n ≤ b.length := by
  unfold nextN at h
  split at h
  · cases h
  · split at h
    · cases h
    · split at h
      · cases h
      · split at h
        · cases h
        · cases h; omega
theorem readN_st : ∀ {f g : Nat} {b : List Nat}, b.length < f → b.length < g → readN f b = readN g b
  | 0, _, _, h, _ => by omega
  | _, 0, _, _, h => by omega
  | f + 1, g + 1, b, h1, h2 => by
    unfold readN
    cases hn : nextN b with
    | wait => rfl
    | bad e => rfl
    | got r n =>
      have := got_n hn
      simp only
      rw [readN_st (f := f) (g := g) (b := b.drop n) (by rw [List.length_drop]; omega) (by rw [List.length_drop]; omega)]
theorem readN_succ (f : Nat) (b : List Nat) : readN (f + 1) b = match nextN b with
    | .wait => ([], b, 0)
    | .bad e => ([], [], e)
    | .got r n => (r :: (readN f (b.drop n)).1, (readN f (b.drop n)).2) := rfl
theorem readA_eq (b : List Nat) : readA b = match nextN b with
    | .wait => ([], b, 0)
    | .bad e => ([], [], e)
    | .got r n => (r :: (readA (b.drop n)).1, (readA (b.drop n)).2) := by
  show readN (b.length + 1) b = _
  rw [readN_succ]
  cases hn : nextN b with
  | wait => rfl
  | bad e => rfl
  | got r n =>
    have := got_n hn
    simp only
    rw [readN_st (f := b.length) (g := (b.drop n).length + 1) (b := b.drop n) (by rw [List.length_drop]; omega) (by omega)]
    rfl
theorem bad_ne {b : List Nat} {e : Int} (h : nextN b = .bad e) : e ≠ 0 := by
  unfold nextN at h
  split at h
  · cases h
  · split at h
    · cases h; decide
    · split at h
      · cases h
      · split at h
        · rename_i he
          cases h
          unfold decodeN at he
          split at he
          · cases he; decide
          · split at he
            · cases he
            · cases he; decide
        · cases h
/-- A reader: what waits, and its fault. -/
def StAt (S : Nat → Prop) (h : AHeap) (id : Nat) (b : List Nat) (why : Int) : Prop :=
  ∃ v z f, h.get id = .cells [.bool true, v, .int .i64 z, .int .i64 why, .int .i64 f] .rw ∧ Bytes S h b v ∧ ¬ S id ∧ (why = 0 → f = 0)
section
variable {h k h' : AHeap} {S S' Z : Nat → Prop} {v w : Value} {id : Nat} {b : List Nat} {why : Int}
theorem StAt.lt (s : StAt S h id b why) : id < h.next := by obtain ⟨v, z, f, hg, _⟩ := s; exact AHeap.lt_of_alive h (by rw [hg]; simp)
theorem StAt.quiet (s : StAt S h id b why) (q : h.quiet h') : StAt S h' id b why := by
  have hlt := s.lt
  obtain ⟨v, z, f, hg, hb, hn, hf⟩ := s
  exact ⟨v, z, f, (q.2 _ hlt).trans hg, hb.quiet q, hn, hf⟩
theorem StAt.mono' (s : StAt S h id b why) (hs : ∀ j, S j → S' j) (hn : ¬ S' id) : StAt S' h id b why := by
  obtain ⟨v, z, f, hg, hb, hni, hf⟩ := s
  exact ⟨v, z, f, hg, hb.weaken hs, hn, hf⟩
theorem sok_ok (s : StAt S h id b why) : Does Try.prog 50 #[.pointer (some ⟨id, 0, none⟩)] h (fun u h' => u = .bool true ∧ h' = h) := by
  obtain ⟨v, z, f, hg, hb, hn, hf⟩ := s
  refine spec_go mixed Try.func50 rfl Try.results50 (n := Try.f50.ntmps) (by kernel_rfl) (by simp) ?_
  simp only [go_sem, simprocAttr, hg]
theorem snew_ok : Does Try.prog 26 #[] h (fun u h' => u = .pointer (some ⟨h.next, 0, none⟩) ∧ h.quiet h' ∧ StAt (h.next < ·) h' h.next [] 0) := by
  refine spec_go mixed Try.func26 rfl Try.results26 (n := Try.f26.ntmps) (by kernel_rfl) (by simp) ?_
  simp only [go_sem, simprocAttr]
  exact ⟨_, 0, 0, by simp, .nil _ _ _, by omega, fun _ => rfl⟩
theorem sWaits_ok (s : StAt S h id b why) : Does Try.prog 28 #[.pointer (some ⟨id, 0, none⟩)] h (fun u h' => u = .int .i64 b.length ∧ h' = h) := by
  refine spec_go mixed Try.func28 rfl Try.results28 (n := Try.f28.ntmps) (by kernel_rfl) (by simp) ?_
  simp only [go_sem, simprocAttr]
  refine cl_spec (sok_ok s) (fun _ _ _ hc => absurd hc (by decide +kernel)) ?_
  rintro u k ⟨rfl, rfl⟩
  obtain ⟨v, z, f, hg, hb, hn, hf⟩ := s
  obtain ⟨a, c, rfl⟩ := hb.shape
  simp only [go_sem, simprocAttr, hg]
theorem sFault_ok (s : StAt S h id b 0) : Does Try.prog 29 #[.pointer (some ⟨id, 0, none⟩)] h (fun u h' => u = .agg #[.int .i64 0, .int .i64 0] ∧ h.quiet h') := by
  have hlt := s.lt
  refine spec_go mixed Try.func29 rfl Try.results29 (n := Try.f29.ntmps) (by kernel_rfl) (by simp) ?_
  simp only [go_sem, simprocAttr]
  refine cl_spec (sok_ok (s.quiet (.push _ _))) (fun _ _ _ hc => absurd hc (by decide +kernel)) ?_
  rintro u k ⟨rfl, rfl⟩
  obtain ⟨v, z, f, hg, hb, hn, hf⟩ := s
  obtain rfl := hf rfl
  simp only [go_sem, simprocAttr, AHeap.get_push_lt _ _ hlt, hg]
theorem swrong_ok {e : Int} (s : StAt S h id b 0) (he : e ≠ 0) : Does Try.prog 69 #[.pointer (some ⟨id, 0, none⟩), .int .i64 e] h (fun u h' => u = .tuple #[] ∧ StAt S h' id [] e ∧ Fw (· = id) h h') := by
  have hlt := s.lt
  obtain ⟨v, z, f, hg, hb, hn, hf⟩ := s
  obtain ⟨a, c, rfl⟩ := hb.shape
  refine spec_go mixed Try.func69 rfl Try.results69 (n := Try.f69.ntmps) (by kernel_rfl) (by simp) ?_
  simp only [go_sem, simprocAttr, hg, AHeap.get_set_self _ _ hlt]
  exact ⟨⟨.slice none 0 0, z, z, AHeap.get_set_self _ _ (by simpa using hlt), .nil _ _ _, hn, fun e' => absurd e' he⟩, (Fw.set _).trans (Fw.set _) (fun _ _ e => e) (fun _ _ e => e)⟩
theorem next_ok (s : StAt S h id b 0) (hS : ∀ j, S j → j < h.next) (hn : b.length ≤ 1099511627776) : Does Try.prog 51 #[.pointer (some ⟨id, 0, none⟩)] h (fun u h' => Fw (· = id) h h' ∧ match nextN b with
    | .wait => u = .tuple #[.agg (Rec.zero.cs (.slice none 0 0)).toArray, .bool false] ∧ StAt S h' id b 0
    | .bad e => u = .tuple #[.agg (Rec.zero.cs (.slice none 0 0)).toArray, .bool false] ∧ StAt S h' id [] e
    | .got r n => ∃ w, u = .tuple #[.agg (r.cs w).toArray, .bool true] ∧ Words (h.next ≤ ·) h' r.data w ∧ StAt S h' id (b.drop n) 0) := by
  have hlt := s.lt
  obtain ⟨v, z, f, hg, hb, hni, hf⟩ := s
  obtain rfl := hf rfl
  obtain ⟨a, c, rfl⟩ := hb.shape
  refine spec_go mixed Try.func51 rfl Try.results51 (n := Try.f51.ntmps) (by kernel_rfl) (by simp) ?_
  have q0 : h.quiet (h.push (.cells [.int .i64 0, .int .i64 0, .int .i64 0, .int .i64 0, .int .i64 0, .int .i64 0, .int .i64 0, .slice none 0 0] .rw)) := .push _ _
  have g0 : (h.push (.cells [.int .i64 0, .int .i64 0, .int .i64 0, .int .i64 0, .int .i64 0, .int .i64 0, .int .i64 0, .slice none 0 0] .rw)).get h.next = .cells [.int .i64 0, .int .i64 0, .int .i64 0, .int .i64 0, .int .i64 0, .int .i64 0, .int .i64 0, .slice none 0 0] .rw := by simp
  simp only [go_sem, simprocAttr]
  generalize h.push (.cells [.int .i64 0, .int .i64 0, .int .i64 0, .int .i64 0, .int .i64 0, .int .i64 0, .int .i64 0, .slice none 0 0] .rw) = k0 at q0 g0
  have hg0 := (q0.2 _ hlt).trans hg
  have hb0 := hb.quiet q0
  have hn0 := AHeap.lt_of_alive k0 (i := h.next) (by rw [g0]; simp)
  simp only [go_sem, simprocAttr, hg0]
  unfold nextN
  by_cases c1 : b.length < 8
  · have c1' : (b.length : Int) < 8 := by omega
    simp only [go_sem, simprocAttr, c1', decide_true, if_pos c1, g0]
    rw [AHeap.set_get g0 (by simp), g0]
    simp only [go_sem, simprocAttr]
    exact ⟨.of_quiet q0, rfl, _, z, 0, hg0, hb0, hni, fun _ => rfl⟩
  · have c1' : ¬ (b.length : Int) < 8 := by omega
    rw [if_neg c1]
    simp only [go_sem, simprocAttr, c1', decide_false, hg0]
    refine cl_spec (new_ok hb0 (fun j hj => Nat.lt_of_lt_of_le (hS j hj) q0.1)) (fun _ _ _ hc => absurd hc (by decide +kernel)) ?_
    rintro u k1 ⟨rfl, e1, hr1⟩
    have q1 : k0.quiet k1 := by rw [e1]; exact .push _ _
    clear e1
    have hpk : (⟨b, 0, 0, 0⟩ : RdS).peek = some (leN (b.take 8)) := by unfold RdS.peek; rw [if_pos ⟨rfl, rfl, by show 0 + 8 ≤ b.length; omega⟩]; rfl
    have hn64 := hr1.leN_lt hpk
    simp only [go_sem, simprocAttr]
    refine cl_spec (int_ok hr1 (most := 700) (by decide)) (fun _ _ _ hc => absurd hc (by decide +kernel)) ?_
    rintro u k2 ⟨rfl, _, f2⟩
    have q2 : k0.quiet k2 := Fw.behind q1 f2 (fun j e => by omega)
    have hg2 := (q2.2 _ (Nat.lt_of_lt_of_le hlt q0.1)).trans hg0
    have e2 : ((⟨b, 0, 0, 0⟩ : RdS).int 700).1 = if 700 < leN (b.take 8) then 0 else ((leN (b.take 8) : Nat) : Int) := by
      unfold RdS.int; rw [hpk]; simp only
      by_cases h7 : 700 < leN (b.take 8)
      · rw [if_pos h7, if_pos (.inr (by omega))]
      · rw [if_neg h7, if_neg (by omega)]
    rw [e2]
    simp only [go_sem, simprocAttr, hg2]
    refine cl_spec (new_ok (hb0.quiet q2) (fun j hj => Nat.lt_of_lt_of_le (hS j hj) (q0.trans q2).1)) (fun _ _ _ hc => absurd hc (by decide +kernel)) ?_
    rintro u k3 ⟨rfl, e3, hr3⟩
    have q3 : k2.quiet k3 := by rw [e3]; exact .push _ _
    clear e3
    simp only [go_sem, simprocAttr]
    refine cl_spec (get_ok hr3) (fun _ _ _ hc => absurd hc (by decide +kernel)) ?_
    rintro u k4 ⟨rfl, _, f4⟩
    have q4 : k0.quiet k4 := q2.trans (Fw.behind q3 f4 (fun j e => by omega))
    have e4 : (⟨b, 0, 0, 0⟩ : RdS).get.1 = leN (b.take 8) := by unfold RdS.get; rw [hpk]
    rw [e4]
    generalize leN (b.take 8) = n at *
    have hg4 := (q4.2 _ (Nat.lt_of_lt_of_le hlt q0.1)).trans hg0
    have g4 := (q4.2 _ hn0).trans g0
    have hb4 := hb0.quiet q4
    have q04 := q0.trans q4
    have s4 : StAt S k4 id b 0 := ⟨_, z, 0, hg4, hb4, hni, fun _ => rfl⟩
    have hlt4 := s4.lt
    by_cases c2 : 700 < n
    · have c2' : (700 : Int) < n := by omega
      rw [if_pos c2]
      simp only [go_sem, simprocAttr, c2', decide_true]
      refine cl_spec (swrong_ok s4 (e := 6) (by decide)) (fun _ _ _ hc => absurd hc (by decide +kernel)) ?_
      rintro u k5 ⟨rfl, s5, f5⟩
      have g5 := (f5.2 _ (AHeap.lt_of_alive k4 (i := h.next) (by rw [g4]; simp)) (by omega)).trans g4
      simp only [go_sem, simprocAttr, g5]
      rw [AHeap.set_get g5 (by simp), g5]
      simp only [go_sem, simprocAttr]
      exact ⟨Fw.after q04 f5, rfl, s5⟩
    · have c2' : ¬ (700 : Int) < n := by omega
      rw [if_neg c2]
      have e8 : IntKind.i64.wrap (8 + (n : Int)) = ((8 + n : Nat) : Int) := by rw [wi64] <;> omega
      simp only [go_sem, simprocAttr, c2', decide_false, hg4, e8, if_neg c2]
      by_cases c3 : b.length < 8 + n
      · have c3' : (b.length : Int) < ((8 + n : Nat) : Int) := by omega
        simp only [go_sem, simprocAttr, c3, decide_true, g4]
        rw [AHeap.set_get g4 (by simp), g4]
        simp only [go_sem, simprocAttr]
        exact ⟨.of_quiet q04, rfl, s4⟩
      · have c3' : ¬ (b.length : Int) < ((8 + n : Nat) : Int) := by omega
        obtain ⟨a1, c1', es, s1⟩ := hb4.slice 1 rfl (l := 8) (m := 8 + n) (by omega) (by omega)
        rw [show 8 + n - 8 = n by omega] at es s1
        have es : slI 1 a b.length c (some 8) (some ((8 + n : Nat) : Int)) = some (.slice a1 n c1') := es
        simp only [go_sem, simprocAttr, c3, decide_false, hg4, e8, es]
        refine cl_spec (decode_ok s1 (by simp; omega)) (fun _ _ _ hc => absurd hc (by decide +kernel)) ?_
        rintro u k5 ⟨q5, hp⟩
        have q45 := q5
        have g5 := (q5.2 _ (AHeap.lt_of_alive k4 (i := h.next) (by rw [g4]; simp))).trans g4
        have hg5 := (q5.2 _ hlt4).trans hg4
        have hh5 := AHeap.lt_of_alive k5 (i := h.next) (by rw [g5]; simp)
        have hlt5 := AHeap.lt_of_alive k5 (i := id) (by rw [hg5]; simp)
        cases hd : decodeN ((b.drop 8).take n) with
        | error e =>
          rw [hd] at hp
          obtain rfl := hp
          have he : e ≠ 0 := by
            unfold decodeN at hd
            split at hd
            · cases hd; decide
            · split at hd
              · cases hd
              · cases hd; decide
          simp only [go_sem, simprocAttr, rc_len, rc_one, rc_take, rc_put, he, decide_true]
          have qp : k5.quiet (k5.push (.cells (Rec.zero.cs (.slice none 0 0)) .rw)) := .push _ _
          refine cl_spec (swrong_ok ((s4.quiet q5).quiet qp) he) (fun _ _ _ hc => absurd hc (by decide +kernel)) ?_
          rintro u k6 ⟨rfl, s6, f6⟩
          have g6 := (f6.2 _ (Nat.lt_of_lt_of_le hh5 qp.1) (by omega)).trans ((qp.2 _ hh5).trans g5)
          simp only [go_sem, simprocAttr, g6]
          rw [AHeap.set_get g6 (by simp), g6]
          simp only [go_sem, simprocAttr]
          exact ⟨Fw.after ((q04.trans q5).trans qp) f6, rfl, s6⟩
        | ok r =>
          rw [hd] at hp
          obtain ⟨rw_, rfl, hrw⟩ := hp
          obtain ⟨ar, cr, rfl⟩ := hrw.shape
          have qp : k5.quiet (k5.push (.cells (r.cs (.slice ar r.data.length cr)) .rw)) := .push _ _
          have gp : (k5.push (.cells (r.cs (.slice ar r.data.length cr)) .rw)).get k5.next = .cells (r.cs (.slice ar r.data.length cr)) .rw := by simp
          have np : (k5.push (.cells (r.cs (.slice ar r.data.length cr)) .rw)).next = k5.next + 1 := by simp
          obtain ⟨a2, c2', es2, s2⟩ := (hb4.quiet (q5.trans qp)).slice 1 rfl (l := 8 + n) (m := b.length) (by omega) (by omega)
          have s2 : Bytes S (k5.push (.cells (r.cs (.slice ar r.data.length cr)) .rw)) (b.drop (8 + n)) (.slice a2 (b.length - (8 + n)) c2') := by
            rwa [List.take_of_length_le (by simp)] at s2
          simp only [go_sem, simprocAttr, rc_len, rc_one, rc_take, rc_put]
          generalize k5.push (.cells (r.cs (.slice ar r.data.length cr)) .rw) = k6 at qp gp np s2
          have hg6 := (qp.2 _ hlt5).trans hg5
          have g6 := (qp.2 _ hh5).trans g5
          have hlt6 := AHeap.lt_of_alive k6 (i := id) (by rw [hg6]; simp)
          have hne1 : h.next ≠ id := by omega
          have hne2 : k5.next ≠ id := by omega
          have gpS : ∀ o, (k6.set id o).get k5.next = .cells (r.cs (.slice ar r.data.length cr)) .rw := fun o => by rw [AHeap.get_set_ne _ _ (Ne.symm hne2)]; exact gp
          have g6S : ∀ o, (k6.set id o).get h.next = .cells [.int .i64 0, .int .i64 0, .int .i64 0, .int .i64 0, .int .i64 0, .int .i64 0, .int .i64 0, .slice none 0 0] .rw := fun o => by rw [AHeap.get_set_ne _ _ (Ne.symm hne1)]; exact g6
          have hn6 : h.next < k6.next := Nat.lt_of_lt_of_le hh5 qp.1
          have hsS : ∀ o, h.next < (k6.set id o).next := fun o => by simpa using hn6
          simp only [go_sem, simprocAttr, hg6, e8, es2, AHeap.get_set_self _ _ hlt6, AHeap.set_set, gpS, g6S, rc_len, rc_one, rc_take, rc_put, AHeap.get_set_self _ _ (hsS _)]
          have f6 : Fw (· = id) h (k6.set id (.cells [.bool true, .slice a2 (b.length - (8 + n)) c2', .int .i64 (IntKind.i64.wrap (IntKind.i64.wrap (z + 8) + n)), .int .i64 0, .int .i64 0] .rw)) := Fw.after ((q04.trans q5).trans qp) (.set _)
          have s6 : StAt S (k6.set id (.cells [.bool true, .slice a2 (b.length - (8 + n)) c2', .int .i64 (IntKind.i64.wrap (IntKind.i64.wrap (z + 8) + n)), .int .i64 0, .int .i64 0] .rw)) id (b.drop (8 + n)) 0 := ⟨_, _, _, AHeap.get_set_self _ _ hlt6, s2.fr (W := (· = id)) (.set _) (fun j hj _ e => hni (e ▸ hj)), hni, fun _ => rfl⟩
          have w6 : Words (k4.next ≤ ·) (k6.set id (.cells [.bool true, .slice a2 (b.length - (8 + n)) c2', .int .i64 (IntKind.i64.wrap (IntKind.i64.wrap (z + 8) + n)), .int .i64 0, .int .i64 0] .rw)) r.data (.slice ar r.data.length cr) := (hrw.quiet qp).fr (W := (· = id)) (.set _) (fun j hj _ e => by omega)
          generalize k6.set id (.cells [.bool true, .slice a2 (b.length - (8 + n)) c2', .int .i64 (IntKind.i64.wrap (IntKind.i64.wrap (z + 8) + n)), .int .i64 0, .int .i64 0] .rw) = k7 at f6 s6 w6
          have fs : Fw (· = h.next) k7 (k7.set h.next (.cells (r.cs (.slice ar r.data.length cr)) .rw)) := .set _
          have hn04 := q0.1
          have hn40 := q4.1
          refine ⟨f6.trans fs (fun _ _ e => e) (fun j hj e => by omega), _, rfl, (w6.fr fs (fun j hj _ e => by omega)).weaken fun j hj => by omega, ?_⟩
          obtain ⟨v7, z7, f7', hg7, hb7, hni7, hf7⟩ := s6
          exact ⟨v7, z7, f7', (fs.2 _ (AHeap.lt_of_alive k7 (by rw [hg7]; simp)) (by omega)).trans hg7, hb7.fr fs (fun j hj _ e => by have := hS j hj; omega), hni7, hf7⟩
end
end Go.Proofs.Ytolnacokdjognaa
