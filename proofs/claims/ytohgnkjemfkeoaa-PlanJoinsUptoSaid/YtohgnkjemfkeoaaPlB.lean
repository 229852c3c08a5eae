/- plan: what of a request lies in which piece. -/
import Derived.Test.YtohgnkjemfkeoaaDatC
set_option linter.unusedSimpArgs false
set_option linter.unusedVariables false
set_option linter.unnecessarySimpa false
set_option maxRecDepth 100000
namespace Go.Proofs.Ytohgnkjemfkeoaa
open Go.AM

/-- What of the blocks from a to ahead of b lies in which piece. -/
def segs : Nat → List Piece → Int → Int → List (Nat × Int × Int × Int)
  | _, [], _, _ => []
  | k, p :: ps, a, b => if max p.frm a < min p.to b then (k, p.node, max p.frm a, min p.to b) :: segs (k + 1) ps a b else segs (k + 1) ps a b

theorem segs_nil : ∀ (ps : List Piece) (k : Nat) {a b : Int}, b ≤ a → segs k ps a b = []
  | [], k, a, b, h => rfl
  | p :: ps, k, a, b, h => by rw [segs, if_neg (by omega), segs_nil ps _ h]
theorem segs_len : ∀ (ps : List Piece) (k : Nat) (a b : Int), (segs k ps a b).length ≤ ps.length
  | [], k, a, b => Nat.le_refl _
  | p :: ps, k, a, b => by
    have := segs_len ps (k + 1) a b
    rw [segs]; split <;> simp <;> omega
theorem segs_far : ∀ {ps : List Piece} {c n a t b : Int} (k : Nat), chain c ps n → a ≤ c → t ≤ c → segs k ps a b = segs k ps t b
  | [], c, n, a, t, b, k, h, h1, h2 => rfl
  | p :: ps, c, n, a, t, b, k, h, h1, h2 => by
    obtain ⟨h3, h4, h5, h6⟩ := h
    rw [segs, segs, segs_far (k + 1) h6 (a := a) (t := t) (by omega) (by omega), show max p.frm a = max p.frm t by omega]
theorem segs_step : ∀ {ps : List Piece} {c n a b : Int} (k : Nat), chain c ps n → c ≤ a → a < b → b ≤ n →
    ∃ p, ps[idxP a ps]? = some p ∧ segs k ps a b = (k + idxP a ps, p.node, a, min p.to b) :: segs k ps (min p.to b) b
  | [], c, n, a, b, k, h, h1, h2, h3 => by simp only [chain] at h; omega
  | p :: ps, c, n, a, b, k, h, h1, h2, h3 => by
    obtain ⟨h4, h5, h6, h7⟩ := h
    rw [idxP_cons]
    by_cases hb : a < p.to
    · rw [if_pos hb]
      refine ⟨p, rfl, ?_⟩
      rw [segs, if_pos (by omega), segs, if_neg (by omega), show max p.frm a = a by omega, segs_far (k + 1) h7 (a := a) (t := min p.to b) (by omega) (by omega)]
      rfl
    · rw [if_neg hb]
      obtain ⟨q, k1, k2⟩ := segs_step (k + 1) h7 (a := a) (b := b) (by omega) h2 h3
      refine ⟨q, by simpa using k1, ?_⟩
      have hq := (List.getElem?_eq_some_iff.1 k1)
      obtain ⟨r, l1, l2, l3, _⟩ := chain_idx h7 (b := a) (by omega) (by omega)
      rw [k1] at l1; cases l1
      rw [segs, if_neg (by omega), k2, segs, if_neg (by omega)]
      congr 2; omega

/-- The parts, each made by a function of where it lies. -/
def mkParts (F : Int → Int → Op) (l : List (Nat × Int × Int × Int)) : List Part := l.map fun s => ⟨s.1, s.2.1, F s.2.2.1 (s.2.2.2 - s.2.2.1)⟩

section
variable {h : AHeap} {S : Nat → Prop} {v : Value}

theorem cloneW_ok {bs : List Nat} (hb : Words S h bs v) (hn : bs.length ≤ 1099511627776) :
    Does Try.prog 38 #[v] h (fun u h' => h.quiet h' ∧ Lst rW h.next (fun _ => False) h' bs u) := by
  obtain ⟨a, cap, rfl⟩ := hb.shape
  refine spec_go mixed Try.func38 rfl Try.results38 (n := Try.f38.ntmps) (by kernel_rfl) (by simp) ?_
  rcases a with _ | ad
  · have hl := hb.len
    have h0 : bs = [] := by obtain ⟨a', cap', css, e, h1, h2, h3, _⟩ := hb; cases e; have := h3 rfl; exact List.eq_nil_of_length_eq_zero (by omega)
    subst h0
    simp only [go_sem, simprocAttr]
    exact .nil _ _ _ _
  · have hq : h.quiet (h.push (.cells [] .rw)) := .push _ _
    obtain ⟨css, e1, ha⟩ := (hb.quiet hq).acells 1 rfl
    simp only [go_sem, simprocAttr, e1, ha.ones, List.length_nil]
    obtain ⟨u, h', e, hl, hf, _⟩ := (Lst.empty rW (lo := h.next) (T := fun _ => False) (h := h.push (.cells [] .rw)) (b := h.next) (o := 0) (Nat.le_refl _) (by simp)).app 1 rfl (bytes := 8) (n := bs.length)
      (nat_all2 (fun n hn => by have := hb.vals rfl n hn; exact this)) rfl (by simp; omega) (by simp; omega) (by simp)
    rw [nat_flat, ← (nat_cells ha).1] at e
    simp only [go_sem, simprocAttr, e]
    exact ⟨Fw.behind hq hf (fun j hj => by simp at hj; omega), hl⟩

/-- A function of where a part lies. -/
def Makes (h : AHeap) (g : FuncId) (caps : Array Value) (off n : Int) (F : Int → Int → Op) : Prop :=
  ∀ (f k : Int) (h' : AHeap), off ≤ f → 1 ≤ k → f + k ≤ off + n → h.quiet h' → Does Try.prog g (#[.int .i64 f, .int .i64 k] ++ caps) h' fun u h'' => h'.quiet h'' ∧ ∃ d, u = opV (F f k) d ∧ (F f k).ok ∧ OwnSl .u64 (h'.next ≤ ·) h'' (F f k).data d

theorem cut_ok {m : SMap} {off n : Int} {g : FuncId} {caps : Array Value} {F : Int → Int → Op} (hd : IsSl rPiece S h m.ps v) (hr : m.right) (h0 : 0 ≤ off) (h1 : 1 ≤ n) (h2 : off + n ≤ m.n) (hF : Makes h g caps off n F) :
    Does Try.prog 36 #[mapV m v, .int .i64 off, .int .i64 n, .func (.func g) #[] caps] h (fun u h' => h.quiet h' ∧ Lst rPartO h.next (h.next ≤ ·) h' (mkParts F (segs 0 m.ps off (off + n))) u) := by
  obtain ⟨a, c, rfl⟩ := hd.shape
  have hl := hd.len
  have hmn := hr.1
  refine spec_go mixed Try.func36 rfl Try.results36 (n := Try.f36.ntmps) (by kernel_rfl) (by simp) ?_
  simp only [go_sem, simprocAttr]
  refine go_gen fun h1 e1 => ?_
  obtain ⟨g2, l2, q1⟩ := AHeap.quiet.box (h := h) (k := h1) (by rw [e1]; exact .refl _)
  clear e1
  refine go_loop (fun z ρ k => ∃ (at_ : Int) (l : List (Nat × Int × Int × Int)) (u : Value), off ≤ at_ ∧ at_ ≤ off + n ∧ z = (off + n - at_).toNat ∧ h.quiet k ∧ h.next < k.next ∧ k.get h.next = .cells [.int .i64 m.ver, .int .i64 m.n, .slice a m.ps.length c] .rw ∧
    Lst rPartO (h.next + 1) (h.next + 1 ≤ ·) k (mkParts F l) u ∧ l ++ segs 0 m.ps at_ (off + n) = segs 0 m.ps off (off + n) ∧
    ρ 1 = .int .i64 off ∧ ρ 2 = .int .i64 n ∧ ρ 3 = .func (.func g) #[] caps ∧ ρ 4 = .pointer (some ⟨h.next, 0, none⟩) ∧ ρ 9 = u ∧ ρ 10 = .int .i64 at_) n.toNat
    ⟨off, [], _, by omega, by omega, by omega, q1, l2, g2, .nil _ _ _ _, rfl, by simp only [go_sem, simprocAttr]⟩ ?_
  rintro z ρ k ⟨at_, l, u, hat, hat2, rfl, qk, lk, gk, hl1, hseg, r1, r2, r3, r4, r9, r10⟩
  have e1 : IntKind.i64.wrap (off + n) = off + n := by rw [wi64] <;> omega
  simp only [go_sem, simprocAttr, r1, r2, r3, r4, r9, r10, e1]
  refine cnd_decide (fun hx => ?_) (fun hx => ?_)
  · simp only [go_sem, simprocAttr, r1, r2, r3, r4, r9, r10, gk]
    refine cl_spec (find_ok (hd.quiet qk)) (fun _ _ _ hc => absurd hc (by decide +kernel)) ?_
    rintro u2 k2 ⟨rfl, q2⟩
    have ef : m.find at_ = ((idxP at_ m.ps : Int), 0) := by unfold SMap.find; rw [if_pos hr, if_pos (by omega)]
    obtain ⟨p, hp, hp1, hp2, _, hp3, _, hp4⟩ := chain_idx hr.2 (b := at_) (by omega) (by omega)
    obtain ⟨p', hp', hst⟩ := segs_step (b := off + n) 0 hr.2 (a := at_) (by omega) (by omega) (by omega)
    rw [hp] at hp'; cases hp'
    have hlt := (List.getElem?_eq_some_iff.1 hp).1
    have qk2 := qk.trans q2
    have gk2 : k2.get h.next = _ := (q2.2 _ lk).trans gk
    obtain ⟨b0, ofs, sp, cc, md, p', rfl, _, hg, hpi, hp', hle, hdt, f0, f1, f2⟩ := (hd.quiet qk2).atPiece hlt
    rw [hp] at hpi; cases hpi
    rw [ef]
    have em : min (off + n) p.to = min p.to (off + n) := by omega
    have e2 : IntKind.i64.wrap (min p.to (off + n) - at_) = min p.to (off + n) - at_ := by rw [wi64] <;> omega
    simp only [go_sem, simprocAttr, r1, r2, r3, r4, r9, r10, gk2, e1, hlt, hg, f1, f2, em, e2]
    refine cl_spec (hF at_ (min p.to (off + n) - at_) k2 hat (by omega) (by omega) qk2) (fun u h' hp _ => hp.1) ?_
    rintro u3 k3 ⟨q3, d, rfl, hok, hown⟩
    have q3' := qk2.trans q3
    have hl3 := (hl1.quiet q2).quiet q3
    have hll : l.length + (segs 0 m.ps at_ (off + n)).length ≤ 16 := by
      rw [← List.length_append, hseg]; have := segs_len m.ps 0 off (off + n); omega
    rw [hst] at hll hseg
    obtain ⟨ad, rfl⟩ := hown.shape
    have hin : inI (idxP at_ m.ps : Nat) ∧ inI p.node := by unfold inI; omega
    generalize hG : F at_ (min p.to (off + n) - at_) = o at *
    have q4 := AHeap.quiet.push k3 (.cells (.int .i64 (idxP at_ m.ps : Nat) :: .int .i64 p.node :: opC o (.slice ad o.data.length o.data.length)) .rw)
    obtain ⟨u4, k4, e4, hl4, hf4, _⟩ := (hl3.quiet q4).app1 (r := rPartO) (y := ⟨(idxP at_ m.ps : Nat), p.node, o⟩) (cs := .int .i64 (idxP at_ m.ps : Nat) :: .int .i64 p.node :: opC o (.slice ad o.data.length o.data.length)) (bytes := 64) 6 rfl
      (rPartO_iff.2 ⟨_, rfl, hin.1, hin.2, hok, hown.mono fun j hj hjl => ⟨⟨by have := q2.1; omega, fun e => by have := (hl1.blk_ge e).2; have := q2.1; omega⟩, q4.2 j hjl⟩⟩) (by simp [mkParts] at hll ⊢; omega) (by simp [mkParts] at hll ⊢; omega) (by have := q3'.1; simp; omega)
    simp only [opC] at e4
    simp only [go_sem, simprocAttr, r1, r2, r3, r4, r9, r10, gk2, e1, hlt, hg, f1, f2, em, e2, e4]
    have q5 : h.quiet k4 := Fw.behind (q3'.trans q4) hf4 (fun j e => by have := ((hl3.quiet q4).blk_ge e).1; omega)
    have lk4 : k3.next < k4.next := by have := hf4.1; simp at this; omega
    have gk4 : k4.get h.next = k2.get h.next := by
      rw [hf4.2 _ (by have := q2.1; have := q3.1; simp; omega) (fun e => by have := ((hl3.quiet q4).blk_ge e).1; omega), q4.2 _ (by have := q2.1; have := q3.1; omega), q3.2 _ (by have := q2.1; omega)]
    refine Hold.mk ⟨(off + n - min p.to (off + n)).toNat, by omega, min p.to (off + n), l ++ [(idxP at_ m.ps, p.node, at_, min p.to (off + n))], u4, by omega, by omega, rfl, q5, by have := q2.1; have := q3.1; omega, gk4.trans gk2, ?_, ?_, ?_⟩
    · rw [mkParts, List.map_append, List.map_cons, List.map_nil]; simp only; rw [hG]; exact hl4
    · rw [Nat.zero_add] at hseg; simpa using hseg
    · simp only [go_sem, simprocAttr, r1, r2, r3, r4]
  · have : at_ = off + n := by omega
    subst this
    rw [segs_nil _ _ (Int.le_refl _), List.append_nil] at hseg
    simp only [go_sem, simprocAttr, r9]
    rw [← hseg]
    exact ⟨qk, hl1.mono (by omega) (Nat.le_refl _) (fun j hj _ _ => ⟨by omega, rfl⟩) (fun _ _ _ => rfl)⟩


/-- What is wrong with a request. -/
def SMap.err (m : SMap) (o : Op) : Int := if m.right then (if o.right m.n then 0 else 9) else 1

theorem right_ok {m : SMap} {o : Op} {d : Value} (hd : IsSl rPiece S h m.ps v) (hod : Words S h o.data d) : Does Try.prog 34 #[mapV m v, opV o d] h (fun u h' => u = .int .i64 (m.err o) ∧ h.quiet h') := by
  obtain ⟨a, c, rfl⟩ := hd.shape
  obtain ⟨a2, c2, rfl⟩ := hod.shape
  refine spec_go mixed Try.func34 rfl Try.results34 (n := Try.f34.ntmps) (by kernel_rfl) (by simp) ?_
  simp only [go_sem, simprocAttr]
  refine cl_gen fun h1 e1 => ?_
  have q1 : h.quiet h1 := by rw [e1]; simp only [go_sem, simprocAttr]
  have g2 : h1.get h.next = .cells [.int .i64 m.ver, .int .i64 m.n, .slice a m.ps.length c] .rw := by rw [e1]; simp only [go_sem, simprocAttr]
  have g3 : h1.get (h.next + 1) = .cells [.int .i64 o.kind, .int .i64 o.off, .int .i64 o.len, .slice a2 o.data.length c2] .rw := by rw [e1]; simp only [go_sem, simprocAttr]
  have l2 : h.next < h1.next := by rw [e1]; simp; omega
  have l3 : h.next + 1 < h1.next := by rw [e1]; simp
  clear e1
  refine cl_spec (sRight_ok (hd.quiet q1)) (fun _ _ _ hc => absurd hc (by decide +kernel)) ?_
  rintro u k ⟨rfl, q2⟩
  have q3 := q1.trans q2
  rw [← q2.2 _ l2] at g2
  rw [← q2.2 _ l3] at g3
  by_cases hr : m.right
  · simp only [go_sem, simprocAttr, hr, decide_true, g2, g3]
    refine cl_spec (bRight_ok (hod.quiet q3)) (fun _ _ _ hc => absurd hc (by decide +kernel)) ?_
    rintro u k1 ⟨rfl, q4⟩
    by_cases ho : o.right m.n
    · simp only [go_sem, simprocAttr, ho, decide_true, SMap.err, hr]
      exact q3.trans q4
    · simp only [go_sem, simprocAttr, ho, decide_false, SMap.err, hr]
      exact q3.trans q4
  · simp only [go_sem, simprocAttr, hr, decide_false, SMap.err]
    exact q3

/-- What of an op lies in some blocks. -/
def Op.cut (o : Op) (f k : Int) : Op := if o.kind = 1 then ⟨1, f, 0, (o.data.drop (f - o.off).toNat).take k.toNat⟩ else ⟨o.kind, f, k, []⟩

theorem OwnSl.nil (k : IntKind) (S : Nat → Prop) (h : AHeap) : OwnSl k S h [] (.slice none 0 0) := ⟨none, rfl, by simp, by simp, .inl ⟨rfl, fun _ e => by cases e⟩⟩

theorem opsF_ok {o : Op} {d : Value} {n : Int} {bo bf : Nat} (hod : Words S h o.data d) (ho : o.right n) (gb : h.get bo = .cells (opC o d) .rw) (gf : h.get bf = .cells [.int .i64 o.range.1] .rw) :
    Makes h 37 #[.pointer (some ⟨bo, 0, none⟩), .pointer (some ⟨bf, 0, none⟩)] o.range.1 o.range.2 o.cut := by
  intro f k h' h1 h2 h3 q
  obtain ⟨a, c, rfl⟩ := hod.shape
  have hl := hod.len
  have lo : bo < h.next := AHeap.lt_of_alive h (by rw [gb]; simp)
  have lf : bf < h.next := AHeap.lt_of_alive h (by rw [gf]; simp)
  rw [← q.2 _ lo] at gb
  rw [← q.2 _ lf] at gf
  replace lo : bo < h'.next := AHeap.lt_of_alive h' (by rw [gb]; simp)
  replace lf : bf < h'.next := AHeap.lt_of_alive h' (by rw [gf]; simp)
  obtain ⟨n0, n1, r0, r1, r2⟩ := Op.range_right ho
  refine spec_go mixed Try.func37 rfl Try.results37 (n := Try.f37.ntmps) (by kernel_rfl) (by simp) ?_
  rcases ho.2 with ⟨k2, d0, _⟩ | ⟨k1, l0, _⟩
  · simp only [go_sem, simprocAttr, AHeap.get_push_lt _ _ lo, gb, k2]
    have ec : o.cut f k = ⟨2, f, k, []⟩ := by unfold Op.cut; rw [if_neg (by omega), k2]
    rw [ec]
    refine ⟨.slice none 0 0, rfl, ⟨by unfold inI; simp only; omega, by unfold inI; simp only; omega, by unfold inI; simp only; omega⟩, OwnSl.nil _ _ _⟩
  · rw [Op.range1 k1] at *
    simp only at h1 h2 h3 r0 r1 r2 gf
    have e1 : IntKind.i64.wrap (f - o.off) = f - o.off := by rw [wi64] <;> omega
    have e2 : IntKind.i64.wrap (f - o.off + k) = f - o.off + k := by rw [wi64] <;> omega
    have ec : o.cut f k = ⟨1, f, 0, (o.data.drop (f - o.off).toNat).take k.toNat⟩ := by unfold Op.cut; rw [if_pos k1]
    rw [ec]
    generalize hH : h'.push (.cells [.int .i64 0, .int .i64 0, .int .i64 0, .slice none 0 0] .rw) = H
    have qH : h'.quiet H := by rw [← hH]; exact .push _ _
    have nH : H.next = h'.next + 1 := by rw [← hH]; simp
    have gH : H.get h'.next = .cells [.int .i64 0, .int .i64 0, .int .i64 0, .slice none 0 0] .rw := by rw [← hH]; simp
    obtain ⟨a', c', es, hs⟩ := ((hod.quiet q).quiet qH).sliceI 1 rfl (l := f - o.off) (m := f - o.off + k) (by omega) (by omega) (by omega)
    rw [show (f - o.off + k).toNat - (f - o.off).toNat = k.toNat by omega] at es hs
    have gbH : H.get bo = _ := (qH.2 _ lo).trans gb
    have gfH : H.get bf = _ := (qH.2 _ lf).trans gf
    simp only [go_sem, simprocAttr, gbH, gfH, k1, e1, e2, es, hH]
    refine cl_spec (cloneW_ok hs (by simp; omega)) (fun _ _ _ hc => absurd hc (by decide +kernel)) ?_
    rintro u k2 ⟨q2, hl2⟩
    have g2 : k2.get h'.next = _ := (q2.2 _ (by omega)).trans gH
    have hown := hl2.own (S := (H.next ≤ ·)) (fun j hj => hj)
    obtain ⟨ad, rfl⟩ := hown.shape
    have lk2 : h'.next < k2.next := by have := q2.1; omega
    simp only [go_sem, simprocAttr, g2, AHeap.get_set_self _ _ lk2]
    refine ⟨(qH.trans q2).set' (Nat.le_refl _) _, _, rfl, ⟨by unfold inI; simp only; omega, by unfold inI; simp only; omega, by unfold inI; simp only; omega⟩, hown.mono fun j hj _ => ⟨by omega, AHeap.get_set_ne _ _ (by omega)⟩⟩


/-- The parts of a request. -/
def SMap.parts (m : SMap) (o : Op) : List Part := mkParts o.cut (segs 0 m.ps o.range.1 (o.range.1 + o.range.2))
def SMap.ops (m : SMap) (o : Op) : List Part := if m.right ∧ o.right m.n then m.parts o else []
/-- Parts that were made. -/
def Parts (h h' : AHeap) (l : List Part) (u : Value) : Prop := Lst rPartO h.next (h.next ≤ ·) h' l u

theorem ops_ok {m : SMap} {o : Op} {d : Value} (hd : IsSl rPiece S h m.ps v) (hod : Words S h o.data d) : Does Try.prog 10 #[mapV m v, opV o d] h
      (fun u h' => h.quiet h' ∧ ∃ w, u = .tuple #[w, .int .i64 (m.err o)] ∧ Parts h h' (m.ops o) w) := by
  obtain ⟨a, c, rfl⟩ := hd.shape
  obtain ⟨a2, c2, rfl⟩ := hod.shape
  refine spec_go mixed Try.func10 rfl Try.results10 (n := Try.f10.ntmps) (by kernel_rfl) (by simp) ?_
  simp only [go_sem, simprocAttr]
  refine cl_gen fun h1 e1 => ?_
  have q1 : h.quiet h1 := by rw [e1]; simp only [go_sem, simprocAttr]
  have g2 : h1.get h.next = .cells [.int .i64 m.ver, .int .i64 m.n, .slice a m.ps.length c] .rw := by rw [e1]; simp only [go_sem, simprocAttr]
  have g3 : h1.get (h.next + 1) = .cells [.int .i64 o.kind, .int .i64 o.off, .int .i64 o.len, .slice a2 o.data.length c2] .rw := by rw [e1]; simp only [go_sem, simprocAttr]
  have l2 : h.next < h1.next := by rw [e1]; simp; omega
  have l3 : h.next + 1 < h1.next := by rw [e1]; simp
  clear e1
  refine cl_spec (right_ok (hd.quiet q1) (hod.quiet q1)) (fun _ _ _ hc => absurd hc (by decide +kernel)) ?_
  rintro u k ⟨rfl, q2⟩
  have q3 := q1.trans q2
  rw [← q2.2 _ l2] at g2
  rw [← q2.2 _ l3] at g3
  replace l2 : h.next < k.next := AHeap.lt_of_alive k (by rw [g2]; simp)
  replace l3 : h.next + 1 < k.next := AHeap.lt_of_alive k (by rw [g3]; simp)
  by_cases hr : m.right ∧ o.right m.n
  · have ee : m.err o = 0 := by unfold SMap.err; rw [if_pos hr.1, if_pos hr.2]
    rw [ee]
    simp only [go_sem, simprocAttr, g2, g3]
    refine cl_spec (Range_ok (hod.quiet q3)) (fun _ _ _ hc => absurd hc (by decide +kernel)) ?_
    rintro u k1 ⟨rfl, q4⟩
    have q5 := q3.trans q4
    rw [← q4.2 _ l2] at g2
    rw [← q4.2 _ l3] at g3
    replace l2 : h.next < k1.next := AHeap.lt_of_alive k1 (by rw [g2]; simp)
    replace l3 : h.next + 1 < k1.next := AHeap.lt_of_alive k1 (by rw [g3]; simp)
    simp only [go_sem, simprocAttr, AHeap.get_push_lt _ _ l2, g2, AHeap.get_push_self, AHeap.get_set_self _ _ (show k1.next < (k1.push (.cells [.int .i64 0] .rw)).next by simp)]
    have q6 := AHeap.quiet.push k1 (.cells [.int .i64 o.range.1] .rw)
    obtain ⟨n0, n1, r0, r1, r2⟩ := Op.range_right hr.2
    have hF := opsF_ok (h := k1.push (.cells [.int .i64 o.range.1] .rw)) (bo := h.next + 1) (bf := k1.next) ((hod.quiet q5).quiet q6) hr.2 (by rw [AHeap.get_push_lt _ _ l3]; exact g3) (by simp)
    refine cl_spec (cut_ok ((hd.quiet q5).quiet q6) hr.1 r0 r1 r2 hF) (fun u h' hp _ => hp.1) ?_
    rintro u k2 ⟨q7, hl⟩
    have q8 := (q5.trans q6).trans q7
    simp only [go_sem, simprocAttr]
    refine ⟨q8, u, rfl, ?_⟩
    unfold SMap.ops
    rw [if_pos hr]
    exact hl.mono (Nat.le_trans q5.1 q6.1) (Nat.le_refl _) (fun j hj _ _ => ⟨Nat.le_trans (Nat.le_trans q5.1 q6.1) hj, rfl⟩) (fun _ _ _ => rfl)
  · have ee : m.err o ≠ 0 := by unfold SMap.err; by_cases h1 : m.right <;> by_cases h2 : o.right m.n <;> simp_all
    simp only [go_sem, simprocAttr, ee]
    refine ⟨q3, _, rfl, ?_⟩
    unfold SMap.ops
    rw [if_neg hr]
    exact Lst.nil _ _ _ _

theorem readsF_ok (h : AHeap) (off n : Int) (h0 : 0 ≤ off) (h1 : off + n ≤ 1024) : Makes h 45 #[] off n (Op.cut ⟨0, off, n, []⟩) := by
  intro f k h' k1 k2 k3 q
  refine spec_go mixed Try.func45 rfl Try.results45 (n := Try.f45.ntmps) (by kernel_rfl) (by simp) ?_
  simp only [go_sem, simprocAttr]
  refine ⟨.slice none 0 0, rfl, ⟨by unfold inI Op.cut; simp, by unfold inI Op.cut; simp; omega, by unfold inI Op.cut; simp; omega⟩, OwnSl.nil _ _ _⟩

/-- What is read, as an op. -/
abbrev rdOp (off n : Int) : Op := ⟨2, off, n, []⟩
def SMap.reads (m : SMap) (off n : Int) : List Part := if m.right ∧ (rdOp off n).right m.n then mkParts (Op.cut ⟨0, off, n, []⟩) (segs 0 m.ps off (off + n)) else []

theorem reads_ok {m : SMap} {off n : Int} (hd : IsSl rPiece S h m.ps v) : Does Try.prog 21 #[mapV m v, .int .i64 off, .int .i64 n] h
      (fun u h' => h.quiet h' ∧ ∃ w, u = .tuple #[w, .int .i64 (m.err (rdOp off n))] ∧ Parts h h' (m.reads off n) w) := by
  obtain ⟨a, c, rfl⟩ := hd.shape
  refine spec_go mixed Try.func21 rfl Try.results21 (n := Try.f21.ntmps) (by kernel_rfl) (by simp) ?_
  simp only [go_sem, simprocAttr]
  refine cl_gen fun h1 e1 => ?_
  obtain ⟨g2, l2, q1⟩ := AHeap.quiet.box (h := h) (k := h1) (by rw [e1]; exact .refl _)
  clear e1
  refine cl_spec (right_ok (o := rdOp off n) (d := .slice none 0 0) (S := S) (hd.quiet q1) (.nil _ _ _)) (fun _ _ _ hc => absurd hc (by decide +kernel)) ?_
  rintro u k ⟨rfl, q2⟩
  have q3 := q1.trans q2
  rw [← q2.2 _ l2] at g2
  by_cases hr : m.right ∧ (rdOp off n).right m.n
  · have ee : m.err (rdOp off n) = 0 := by unfold SMap.err; rw [if_pos hr.1, if_pos hr.2]
    rw [ee]
    obtain ⟨n0, n1, r0, r1, r2⟩ := Op.range_right hr.2
    rw [Op.range2 rfl] at r0 r1 r2
    simp only at r0 r1 r2
    simp only [go_sem, simprocAttr, g2]
    refine cl_spec (cut_ok (hd.quiet q3) hr.1 r0 r1 r2 (readsF_ok k off n r0 (by omega))) (fun u h' hp _ => hp.1) ?_
    rintro u k2 ⟨q7, hl⟩
    simp only [go_sem, simprocAttr]
    refine ⟨q3.trans q7, u, rfl, ?_⟩
    unfold SMap.reads
    rw [if_pos hr]
    exact hl.mono q3.1 (Nat.le_refl _) (fun j hj _ _ => ⟨Nat.le_trans q3.1 hj, rfl⟩) (fun _ _ _ => rfl)
  · have ee : m.err (rdOp off n) ≠ 0 := by unfold SMap.err; by_cases h1 : m.right <;> by_cases h2 : (rdOp off n).right m.n <;> simp_all
    simp only [go_sem, simprocAttr, ee]
    refine ⟨q3, _, rfl, ?_⟩
    unfold SMap.reads
    rw [if_neg hr]
    exact Lst.nil _ _ _ _

end
end Go.Proofs.Ytohgnkjemfkeoaa
