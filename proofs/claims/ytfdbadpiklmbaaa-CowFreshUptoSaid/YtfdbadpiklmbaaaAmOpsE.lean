/- AM: conversions, comparisons, lengths; and all operations together. -/
import Derived.Test.YtfdbadpiklmbaaaAmOpsD
import Derived.Laws.BytesString
import Derived.Lib.ConvBytes
set_option linter.unusedSimpArgs false
set_option linter.unusedVariables false
set_option linter.unnecessarySimpa false
set_option maxRecDepth 100000
namespace Go.AM
section
variable {P : Program} {ι : PMap} {w : World}

theorem bytesOf_ints : ∀ (cs : List Value) (acc b : ByteArray), bytesOfCells cs acc = some b → ∃ ns : List Int, cs = ns.map (Value.int .u8) ∧ b = ns.foldl (fun r n => r.push (UInt8.ofNat n.toNat)) acc
  | [], acc, b, h => by simp [bytesOfCells] at h; subst h; exact ⟨[], rfl, rfl⟩
  | c :: cs, acc, b, h => by
    cases c with
    | int k n =>
      cases k with
      | u8 =>
        simp only [bytesOfCells] at h
        obtain ⟨ns, rfl, rfl⟩ := bytesOf_ints _ _ _ h
        exact ⟨n :: ns, rfl, rfl⟩
      | _ => simp [bytesOfCells] at h
    | _ => simp [bytesOfCells] at h

theorem VRL.ints {k : IntKind} {ns : List Int} {l : List Value} (h : VRL ι (ns.map (Value.int k)) l) : l = ns.map (Value.int k) := by
  induction ns generalizing l with
  | nil => exact h.nil_inv
  | cons n ns ih =>
    obtain ⟨v', c', rfl, h1, h2⟩ := h.cons_inv
    rw [h1.int_inv, ih h2]; rfl

theorem sim_conv {h : AHeap} (hr : HR ι h w) {s d : TypeId} {x x' : Value} {v : Value} {h' : AHeap} (ha : aconv P h s d x = some (v, h')) (hx : VR ι x x') (hf : ∀ id, h.next ≤ id → id < h'.next → ι id = none) :
    ∃ ι' w' v', (convert s d x').run P w = .ok v' w' ∧ Step ι h w ι' h' w' ∧ VR ι' v v' := by
  unfold aconv at ha
  split at ha
  · rename_i sd k k' n hs hd
    cases ha
    rw [hx.int_inv]
    exact ⟨ι, w, _, by simp [convert, run_und hs, run_und hd, Conv.intToInt], .refl hr, .int _ _⟩
  · rename_i sd b hs hd
    cases ha
    rw [hx.string_inv]
    exact ⟨ι, w, _, by simp [convert, run_und hs, run_und hd], .refl hr, .string _⟩
  · rename_i e a n c hs hd
    split at ha
    · rename_i he
      split at ha
      · rename_i cs hcs
        cases hb : bytesOfCells cs .empty with
        | none => simp [hb] at ha
        | some b =>
          simp only [hb, Option.map_some, Option.some.injEq, Prod.mk.injEq] at ha
          obtain ⟨rfl, rfl⟩ := ha
          obtain ⟨ns, rfl, rfl⟩ := bytesOf_ints _ _ _ hb
          obtain ⟨cs', r1, v1⟩ := sim_acells (P := P) hr hcs hx ⟨n, rfl, Nat.le_refl _⟩
          have e1 : cs' = (ns.map (Value.int .u8)).toArray := by
            apply Array.toList_inj.1; simpa using v1.ints
          have : (∃ cc, x' = .slice none n cc ∧ ns = []) ∨ ∃ ad cc, x' = .slice (some ad) n cc := by
            cases hx with
            | sliceNil => left; refine ⟨0, rfl, ?_⟩; simp [acells] at hcs; exact hcs
            | sliceX off len cap hι hlc => exact .inr ⟨_, _, rfl⟩
            | sliceU off len kn cap' sz hι hlc hk hsz hb => exact .inr ⟨_, _, rfl⟩
            | slice0 a b => exact .inr ⟨_, _, rfl⟩
          rcases this with ⟨cc, rfl, rfl⟩ | ⟨ad, cc, rfl⟩
          · refine ⟨ι, w, _, ?_, .refl hr, .string _⟩
            rw [run_convert_bytes_string w s d e none n cc hs he hd]
            simp [Conv.bytesToString]
          · refine ⟨ι, w, _, ?_, .refl hr, .string _⟩
            rw [run_convert_bytes_string w s d e (some ad) n cc hs he hd]
            refine run_bytesToString w ad n cc ns ?_
            simp only [Builtin.firstCells] at r1
            rw [← e1]; simpa using r1
      · cases ha
    · cases ha
  · rename_i e b hs hd
    split at ha
    · rename_i he
      cases ha
      rw [hx.string_inv]
      have hnx : ι h.next = none := hf _ (Nat.le_refl _) (by simp)
      have hrun := Lib.run_convert_string_bytes (P := P) w s d e b hs hd he
      have hcap : b.size ≤ grownCap w b.size 0 e := grownCap_ge w _ _ _
      have hsz : (Lib.bytesCells w e b).size = grownCap w b.size 0 e := by
        simp only [Lib.bytesCells, Array.size_append, Array.size_map, Array.size_replicate]
        show b.data.size + _ = _
        have : b.data.size = b.size := rfl
        omega
      have hb := Lib.bytesWorld_at_new w e b
      refine ⟨ι.upd h.next ⟨w.heap.size, 0, grownCap w b.size 0 e, 1⟩, _, _, hrun, ?_, ?_⟩
      · refine Step.new hr hnx rfl (Lib.bytesWorld_size w e b) (fun k hk => Lib.bytesWorld_at_old w e b k hk) ?_ ?_ ?_ ?_
        · simp only [Lib.bytesWorld, World.freeze, if_neg (show ¬ (1 = 0) by decide)]; rfl
        · simp only [Lib.bytesWorld, World.freeze, if_neg (show ¬ (1 = 0) by decide)]; rfl
        · simp only [Lib.bytesWorld, World.freeze, if_neg (show ¬ (1 = 0) by decide)]; rfl
        · refine ⟨rfl, ?_, _, e, _, hb, by simp [hsz], fun j hj => ?_, fun j v hj => ?_⟩
          · simp only [List.length_map, Array.length_toList]
            show b.data.size ≤ _
            exact hcap
          · simp only at hj
            simp only [World.frozen?, hb, hsz]
            simp; omega
          · obtain ⟨hl, rfl⟩ := List.getElem?_eq_some_iff.1 hj
            simp at hl
            refine ⟨.int .u8 (b.data[j]).toNat, ?_, ?_⟩
            · have hl' : j < b.data.size := hl
              simp only [Lib.bytesCells, Nat.zero_add]
              rw [Array.getElem?_append_left (by simpa using hl')]
              rw [Array.getElem?_map, Array.getElem?_eq_getElem hl']
              rfl
            · simp; exact .int _ _
      · have := VR.sliceU (ι := ι.upd h.next ⟨w.heap.size, 0, grownCap w b.size 0 e, 1⟩) 0 b.size b.size (grownCap w b.size 0 e) 1 (PMap.upd_self _ _ _) (Nat.le_refl _) hcap rfl (by simp)
        simpa using this
    · cases ha
  · rename_i e0 e a n c hs hd
    split at ha
    · rename_i he
      split at ha
      · rename_i cs hcs
        split at ha
        · rename_i hc
          obtain ⟨rfl, hsp, hoff, rfl, rfl, hpos⟩ := hc
          cases ha
          have hnx : ι h.next = none := hf _ (Nat.le_refl _) (by simp)
          obtain ⟨id, off, sp⟩ := a
          simp only at hsp hoff hcs
          subst hsp hoff
          generalize hn : cs.length = n at hx hpos ⊢
          cases hx with
          | slice0 a b => omega
          | sliceX off len cap hι hlc =>
            rename_i pl
            have hee : e0 = e := by rw [hs] at hd; cases hd; rfl
            subst hee
            have ho := hr.obj _ _ hι
            rw [hcs] at ho
            obtain ⟨hb0, cs', e', hw, hl⟩ := ho
            have hsz : cs'.size = n := by rw [← hn]; simpa using hl.1.symm
            have hlt : pl.b < w.heap.size := hr.lt _ _ hι (by rw [hcs]; rfl)
            have hsh : w.shape? pl.b = some (e', cs'.size) := by simp [World.shape?, hw]
            have hrun : (convert s s (.slice (some ⟨pl.b, pl.base + 0, none⟩) n n)).run P w = .ok (.slice (some ⟨pl.b, pl.base + 0, none⟩) n n) (w.freeze ⟨pl.b, cs'.size, none⟩ 1) := by
              simp [convert, run_und hs, run_und he, run_und hd, markStringish, hsh]
            have hfz : (w.freeze ⟨pl.b, cs'.size, none⟩ 1).heap[pl.b]? = some (.cells cs' e' (cs'.size, cs'.size + 1)) := by
              simp [World.freeze, Array.getElem?_modify, hw]
            refine ⟨ι.upd h.next ⟨pl.b, 0, n, 1⟩, _, _, hrun, Step.moveOn hr hnx hι (by rw [hcs]; rfl) rfl ?_ ?_ ?_ ?_ ?_ ?_, ?_⟩
            · simp [World.freeze]
            · intro k hk
              simp [World.freeze, Array.getElem?_modify, Ne.symm hk]
            · simp [World.freeze]
            · simp [World.freeze]
            · simp [World.freeze]
            · refine ⟨rfl, by simp [hn], cs', e', _, hfz, by simp [hsz], fun j hj => ?_, fun j v hj => ?_⟩
              · have hj' : j < n := hj
                simp only [World.frozen?, hfz]
                simp only [Nat.zero_add, Bool.and_eq_false_iff, decide_eq_false_iff_not]
                left; omega
              · obtain ⟨u, h5, h6⟩ := (hl.mono (PMap.le_upd _ hnx)).getElem? hj
                exact ⟨u, by simpa using h5, h6⟩
            · have := VR.sliceU (ι := ι.upd h.next ⟨pl.b, 0, n, 1⟩) 0 n n n 1 (PMap.upd_self _ _ _) (Nat.le_refl _) (Nat.le_refl _) rfl (by simp)
              rw [hb0]
              simpa using this
        · cases ha
      · cases ha
    · cases ha
  · cases ha

theorem sim_bin {h : AHeap} (hr : HR ι h w) {op : BinOp} {t : TypeId} {x y x' y' v : Value} {a b : Operand} (ha : abin P h op t x y = some v) (hx : VR ι x x') (hy : VR ι y y') :
    (do eqGuard op t a b x' y'; binOp op t x' y' : Sem Value).run P w = .ok v w ∧ VR ι v v := by
  have noguard : ∀ {x y : Value}, (∀ p q, ¬ (x = .agg p ∧ y = .agg q)) → ¬ (x = .nilIface ∧ y = .nilIface) → (eqGuard op t a b x y).run P w = .ok () w := by
    intro x y h1 h2
    unfold eqGuard
    cases x with
    | nilIface =>
      cases y with
      | nilIface => exact absurd ⟨rfl, rfl⟩ h2
      | _ => cases op <;> rfl
    | agg p =>
      cases y with
      | agg q => exact absurd ⟨rfl, rfl⟩ (h1 _ _)
      | _ => cases op <;> rfl
    | _ => cases op <;> rfl
  unfold abin at ha
  split at ha
  · rename_i k m k' n
    rw [hx.int_inv, hy.int_inv]
    simp only [Sem.run_bind, noguard (x := .int k m) (y := .int k' n) (by simp) (by simp), Result.andThen_ok]
    split at ha
    · exact sim_shift (.inl rfl) ha t
    · exact sim_shift (.inr rfl) ha t
    · rename_i hn1 hn2
      split at ha
      · rename_i hk
        subst hk
        exact sim_int ha ⟨fun e => hn1 e, fun e => hn2 e⟩ t
      · cases ha
  · rename_i s1 s2
    rw [hx.string_inv, hy.string_inv]
    simp only [Sem.run_bind, noguard (x := .string s1) (y := .string s2) (by simp) (by simp), Result.andThen_ok]
    exact sim_str ha t
  · rename_i hn1 hn2
    have fall : ∀ (op : BinOp), (op = .eql ∨ op = .neq) → binOp op t x' y' = (do let r ← Op.equal t x' y'; pure (.bool (if op = .eql then r else !r))) := by
      intro op hop
      have g1 : ∀ k m k' n, ¬ (x' = .int k m ∧ y' = .int k' n) := by
        rintro k m k' n ⟨rfl, rfl⟩
        cases hx; cases hy; exact hn1 _ _ _ _ rfl rfl
      have g2 : ∀ m n, ¬ (x' = .string m ∧ y' = .string n) := by
        rintro m n ⟨rfl, rfl⟩
        cases hx; cases hy; exact hn2 _ _ rfl rfl
      have g3 : ∀ k m k' n, ¬ (x' = .float k m ∧ y' = .float k' n) := by
        rintro k m k' n ⟨rfl, rfl⟩
        cases hx; cases hy
        have : aequal P h t (.float k m) (.float k' n) = none := by
          simp only [aequal]
          unfold aeq
          cases P.underlying t with
          | none => rfl
          | some d => cases d <;> rfl
        rcases hop with rfl | rfl <;> (split at ha <;> simp [this] at ha)
      have g4 : ∀ k m m' k' n n', ¬ (x' = .complex k m m' ∧ y' = .complex k' n n') := by
        rintro k m m' k' n n' ⟨rfl, rfl⟩
        cases hx; cases hy
        have : aequal P h t (.complex k m m') (.complex k' n n') = none := by
          simp only [aequal]
          unfold aeq
          cases P.underlying t with
          | none => rfl
          | some d => cases d <;> rfl
        rcases hop with rfl | rfl <;> (split at ha <;> simp [this] at ha)
      rcases hop with rfl | rfl
      · cases x' with
        | int k m => cases y' <;> first | exact absurd ⟨rfl, rfl⟩ (g1 _ _ _ _) | rfl
        | string m => cases y' <;> first | exact absurd ⟨rfl, rfl⟩ (g2 _ _) | rfl
        | float k m => cases y' <;> first | exact absurd ⟨rfl, rfl⟩ (g3 _ _ _ _) | rfl
        | complex k m m' => cases y' <;> first | exact absurd ⟨rfl, rfl⟩ (g4 _ _ _ _ _ _) | rfl
        | _ => rfl
      · cases x' with
        | int k m => cases y' <;> first | exact absurd ⟨rfl, rfl⟩ (g1 _ _ _ _) | rfl
        | string m => cases y' <;> first | exact absurd ⟨rfl, rfl⟩ (g2 _ _) | rfl
        | float k m => cases y' <;> first | exact absurd ⟨rfl, rfl⟩ (g3 _ _ _ _) | rfl
        | complex k m m' => cases y' <;> first | exact absurd ⟨rfl, rfl⟩ (g4 _ _ _ _ _ _) | rfl
        | _ => rfl
    split at ha
    · cases hq : aequal P h t x y with
      | none => simp [hq] at ha
      | some r =>
        simp [hq] at ha
        subst ha
        obtain ⟨q1, q2⟩ := sim_aequal hr hq hx hy
        rw [fall _ (.inl rfl)]
        exact ⟨by simp [q1, q2], .bool _⟩
    · cases hq : aequal P h t x y with
      | none => simp [hq] at ha
      | some r =>
        simp [hq] at ha
        subst ha
        obtain ⟨q1, q2⟩ := sim_aequal hr hq hx hy
        rw [fall _ (.inr rfl)]
        exact ⟨by simp [q1, q2], .bool _⟩
    · cases ha

theorem sim_len {h : AHeap} (hr : HR ι h w) {ats : Array TypeId} {ty : TypeId} {x x' v : Value} (ha : alenB P h ats x = some v) (hx : VR ι x x') :
    (Builtin.len_ ats ty #[x']).run P w = .ok v w ∧ VR ι v v := by
  unfold alenB at ha
  split at ha
  · rename_i t ht
    split at ha
    · rename_i s hu
      cases ha; rw [hx.string_inv]
      exact ⟨by simp [Builtin.len_, ht, run_und hu, goInt], .int _ _⟩
    · rename_i e a n c hu
      cases ha
      cases hx <;> exact ⟨by simp [Builtin.len_, ht, run_und hu, goInt], .int _ _⟩
    · rename_i n e y hu
      cases ha
      exact ⟨by simp [Builtin.len_, ht, run_und hu, goInt], .int _ _⟩
    · rename_i k e hu
      cases ha
      cases hx
      exact ⟨by simp [Builtin.len_, ht, run_und hu, goInt], .int _ _⟩
    · rename_i k e r hu
      split at ha
      · rename_i es clock hg
        cases ha
        obtain ⟨pl, hι, rfl⟩ := hx.map_inv
        have ho := hr.obj _ _ hι
        rw [hg] at ho
        obtain ⟨es', hb, he⟩ := ho
        have hsz : es.length = es'.size := by have := he.1; simpa using this
        refine ⟨?_, .int _ _⟩
        have hget : (getObj pl.b).run P w = .ok (.map es' clock) w := by simp [getObj, Sem.run, hb]
        simp [Builtin.len_, ht, run_und hu, goInt, hget, hsz]
      · cases ha
    · cases ha
  · cases ha

theorem sim_cap {ats : Array TypeId} {ty : TypeId} {x x' v : Value} (ha : acapB P ats x = some v) (hx : VR ι x x') :
    (Builtin.cap_ ats ty #[x']).run P w = .ok v w ∧ VR ι v v := by
  unfold acapB at ha
  split at ha
  · rename_i t ht
    split at ha
    · rename_i e hu
      cases ha
      cases hx
      exact ⟨by simp [Builtin.cap_, ht, run_und hu, goInt], .int _ _⟩
    · rename_i e a n c hu
      split at ha
      · rename_i hsp
        cases ha
        cases hx with
        | sliceX off len cap hι hlc => exact ⟨by simp [Builtin.cap_, ht, run_und hu, goInt], .int _ _⟩
        | sliceU off len kn cap' sz hι hlc hk hsz hb => cases hsp
        | slice0 a b => exact ⟨by simp [Builtin.cap_, ht, run_und hu, goInt], .int _ _⟩
      · cases ha
    · cases ha
  · cases ha

/-- What the model yields at an operation. -/
def Yield (P : Program) (r : Result Next) (v : Value) (w' : World) : Prop := r = .ok (.value v) w' ∨ (r = .ok .skip w' ∧ v = undef)

theorem VR.undef : VR ι undef undef := .tuple _ _ rfl (fun i h1 => absurd h1 (by simp))

set_option maxHeartbeats 4000000 in
/-- All operations but the calls of Go functions. -/
theorem sim_op {h : AHeap} (hr : HR ι h w) {ρ ρ' : Operand → Value} {o : Oper} {v : Value} {h' : AHeap} (ha : aop P ρ h o.op = some (v, h')) (hρ : ∀ x ∈ o.op.operands, VR ι (ρ x) (ρ' x))
    (hf : ∀ id, h.next ≤ id → id < h'.next → ι id = none) :
    ∃ ι' w' v', Yield P ((execOp ρ' o).run P w) v' w' ∧ Step ι h w ι' h' w' ∧ VR ι' v v' := by
  obtain ⟨dst, op, ty, pos, after, guard⟩ := o
  simp only at ha hρ
  -- an operation whose value is known
  have val : ∀ {s : Sem Value} {u u' : Value} {ι₁ : PMap} {w₁ : World}, execOp ρ' ⟨dst, op, ty, pos, after, guard⟩ = (do pure (.value (← s))) → s.run P w = .ok u' w₁ → Step ι h w ι₁ h' w₁ → VR ι₁ u u' → v = u →
      ∃ ι' w' v', Yield P ((execOp ρ' ⟨dst, op, ty, pos, after, guard⟩).run P w) v' w' ∧ Step ι h w ι' h' w' ∧ VR ι' v v' := by
    intro s u u' ι₁ w₁ he hs hst hv e
    subst e
    exact ⟨ι₁, w₁, u', .inl (by rw [he]; simp [hs]), hst, hv⟩
  cases op <;> simp only [aop] at ha <;> simp only [Op.operands] at hρ
  case move x => cases ha; exact ⟨ι, w, ρ' x, .inl rfl, .refl hr, hρ x (by simp)⟩
  case assign x => cases ha; exact ⟨ι, w, ρ' x, .inl rfl, .refl hr, hρ x (by simp)⟩
  case pick c a b =>
    split at ha
    · rename_i t ht
      cases ha
      have hc := hρ c (by simp)
      rw [ht] at hc
      refine ⟨ι, w, if t then ρ' a else ρ' b, .inl ?_, .refl hr, ?_⟩
      · simp only [execOp]; rw [hc.bool_inv]; simp [asBool]
      · cases t
        · exact hρ b (by simp)
        · exact hρ a (by simp)
    · cases ha
  case alloc t =>
    split at ha
    · rename_i z hz
      split at ha
      · rename_i hp
        cases ha
        have hnx : ι h.next = none := hf _ (Nat.le_refl _) (by simp)
        have hs := step_alloc hr hnx t (VRL.refl_plain hp)
        refine val (s := Instr.alloc t true (.tuple #[])) rfl (u := .pointer (some ⟨h.next, 0, none⟩)) (u' := .pointer (some ⟨w.heap.size, 0, none⟩)) ?_ hs ?_ rfl
        · simp [Instr.alloc, run_zero hz, newVar, newRow]
        · have := VR.ptr (ι := ι.upd h.next ⟨w.heap.size, 0, z.cells.toList.length, 0⟩) 0 (PMap.upd_self _ _ _)
          simpa using this
      · cases ha
    · cases ha
  case box t x =>
    cases ha
    have hnx : ι h.next = none := hf _ (Nat.le_refl _) (by simp)
    have hs := step_alloc hr hnx t (hρ x (by simp)).cells
    refine val (s := Instr.box t (ρ' x)) rfl (u := .pointer (some ⟨h.next, 0, none⟩)) (u' := .pointer (some ⟨w.heap.size, 0, none⟩)) ?_ hs ?_ rfl
    · simp [Instr.box, newVar, newRow]
    · have := VR.ptr (ι := ι.upd h.next ⟨w.heap.size, 0, (ρ x).cells.toList.length, 0⟩) 0 (PMap.upd_self _ _ _)
      simpa using this
  case build t parts =>
    cases hb : abuild P t (parts.toList.map fun p => (p.1, ρ p.2)) with
    | none => simp [hb] at ha
    | some u =>
      simp [hb] at ha
      obtain ⟨rfl, rfl⟩ := ha
      obtain ⟨u', h1, h2⟩ := sim_build (w := w) (ι := ι) (parts' := parts.toList.map fun p => (p.1, ρ' p.2)) hb (by simp [Function.comp_def]) (by
        simp only [List.map_map, Function.comp_def]
        exact .map fun p hp => hρ p.2 (by simp; exact ⟨p.1, by simpa using hp⟩))
      refine val (s := Instr.build t (parts.map fun (i, x) => (i, ρ' x))) rfl (u' := u') ?_ (.refl hr) h2 rfl
      rw [← h1]; congr 2
      apply Array.toList_inj.1; simp
  case buildSlice t len parts =>
    obtain ⟨ι', w', u', h1, h2, h3⟩ := sim_buildSlice hr (parts' := parts.toList.map fun p => (p.1, ρ' p.2)) ha (by simp [Function.comp_def]) (by
      simp only [List.map_map, Function.comp_def]
      exact .map fun p hp => hρ p.2 (by simp; exact ⟨p.1, by simpa using hp⟩)) hf
    refine val (s := Instr.buildSlice t len (parts.map fun (i, x) => (i, ρ' x))) rfl (u' := u') ?_ h2 h3 rfl
    rw [← h1]; congr 2
    apply Array.toList_inj.1; simp
  case load t x =>
    split at ha
    · rename_i id off hp
      cases hl : aload P t h id off with
      | none => simp [hl] at ha
      | some u =>
        simp [hl] at ha
        obtain ⟨rfl, rfl⟩ := ha
        have hx := hρ x (by simp)
        rw [hp] at hx
        obtain ⟨pl, hι, _, hx'⟩ := hx.ptr_inv
        obtain ⟨u', h1, h2⟩ := sim_load (w := w) hl (hr.obj _ _ hι)
        refine val (s := Instr.loadAt t (ρ' x)) rfl (u' := u') ?_ (.refl hr) h2 rfl
        rw [hx']; simp [Instr.loadAt, Instr.sureAddr, h1]
    · cases ha
  case store t x y =>
    split at ha
    · rename_i id off hp
      cases hl : astore P t (ρ y) h id off with
      | none => simp [hl] at ha
      | some u =>
        simp [hl] at ha
        obtain ⟨rfl, rfl⟩ := ha
        have hx := hρ x (by simp)
        rw [hp] at hx
        obtain ⟨pl, hι, _, hx'⟩ := hx.ptr_inv
        obtain ⟨w', h1, h2⟩ := sim_store (P := P) hr hl (hρ y (by simp)) hι
        refine ⟨ι, w', undef, .inr ⟨?_, rfl⟩, h2, .undef⟩
        simp only [execOp]; rw [hx']; simp [Instr.storeAt, Instr.sureAddr, h1]
    · cases ha
  case nilCheck x =>
    split at ha
    · rename_i a hp
      cases ha
      have hx := hρ x (by simp)
      rw [hp] at hx
      obtain ⟨pl, hι, _, hx'⟩ := hx.ptr_inv
      refine ⟨ι, w, ρ' x, .inl ?_, .refl hr, ?_⟩
      · simp only [execOp]; rw [hx']; rfl
      · exact hx
    · cases ha
  case binOp op t x y t' =>
    cases hb : abin P h op t (ρ x) (ρ y) with
    | none => simp [hb] at ha
    | some u =>
      simp [hb] at ha
      obtain ⟨rfl, rfl⟩ := ha
      obtain ⟨h1, h2⟩ := sim_bin (w := w) (a := x) (b := y) hr hb (hρ x (by simp)) (hρ y (by simp))
      exact val (s := do eqGuard op t x y (ρ' x) (ρ' y); binOp op t (ρ' x) (ρ' y)) rfl h1 (.refl hr) h2 rfl
  case unOp op t x =>
    cases hb : aun op (ρ x) with
    | none => simp [hb] at ha
    | some u =>
      simp [hb] at ha
      obtain ⟨rfl, rfl⟩ := ha
      obtain ⟨h1, h2⟩ := sim_un (P := P) (w := w) hb (hρ x (by simp))
      exact val (s := Op.unary op (ρ' x)) rfl h1 (.refl hr) h2 rfl
  case convert s d x =>
    obtain ⟨ι', w', u', h1, h2, h3⟩ := sim_conv hr ha (hρ x (by simp)) hf
    exact val (s := convert s d (ρ' x)) rfl h1 h2 h3 rfl
  case makeInterface t x =>
    split at ha
    · cases ha
    · rename_i d hd hu
      cases ha
      refine val (s := Instr.makeInterface t (ρ' x)) rfl (u' := .iface t (ρ' x)) ?_ (.refl hr) (.iface t _ _ (hρ x (by simp))) rfl
      cases d with
      | interface ms => exact absurd rfl (hd _)
      | _ => simp [Instr.makeInterface, run_und hu]
    · cases ha
  case makeFunc fn first cap =>
    split at ha
    · cases ha
      have e1 : VRA ι (first.map ρ) (first.map ρ') := .map fun x hx => hρ x (by simp [hx])
      have e2 : VRA ι (cap.map ρ) (cap.map ρ') := .map fun x hx => hρ x (by simp [hx])
      exact val (s := Instr.makeFunc _ (first.map ρ') (cap.map ρ')) rfl (u' := .func _ (first.map ρ') (cap.map ρ')) rfl (.refl hr) (.func _ _ _ _ _ e1.1 e2.1 e1.2 e2.2) rfl
    · cases ha
  case makeMap t r =>
    split at ha
    · split at ha
      · rename_i hi
        cases ha
        have hnx : ι h.next = none := hf _ (Nat.le_refl _) (by simp)
        have hs : Step ι h w (ι.upd h.next ⟨w.heap.size, 0, 0, 0⟩) (h.push (.map [] 0)) (w.alloc (.map #[] 0)) :=
          Step.new hr hnx rfl (by simp) (fun k hk => heap_alloc_lt w _ hk) rfl rfl rfl ⟨#[], heap_alloc w _, rfl, fun i h1 => absurd h1 (by simp)⟩
        refine val (s := Instr.makeMap t none) rfl (u := .map (some h.next)) (u' := .map (some w.heap.size)) ?_ hs ?_ rfl
        · simp [Instr.makeMap, newObj, Sem.run]
        · exact VR.map (ι := ι.upd h.next ⟨w.heap.size, 0, 0, 0⟩) (PMap.upd_self _ _ _)
      · cases ha
    · cases ha
  case makeSlice t l c =>
    obtain ⟨ι', w', u', h1, h2, h3⟩ := sim_make hr ha (hρ l (by simp)) (hρ c (by simp)) hf
    exact val (s := Instr.makeSlice t (ρ' l) (ρ' c)) rfl h1 h2 h3 rfl
  case slice t x lo hi mx =>
    cases hb : aslice P t (ρ x) (lo.map fun v => intOf? (ρ v)) (hi.map fun v => intOf? (ρ v)) (mx.map fun v => intOf? (ρ v)) with
    | none => simp [hb] at ha
    | some u =>
      simp [hb] at ha
      obtain ⟨rfl, rfl⟩ := ha
      obtain ⟨u', h1, h2⟩ := sim_slice (w := w) (ι := ι) hb (hρ x (by simp)) (fun y hy => hρ y (by cases hy; simp)) (fun y hy => hρ y (by cases hy; simp)) (fun y hy => hρ y (by cases hy; simp))
      exact val (s := Instr.sliceAt t (ρ' x) (lo.map ρ') (hi.map ρ') (mx.map ρ')) rfl h1 (.refl hr) h2 rfl
  case fieldAddr s x f =>
    cases hb : afieldAddr P s (ρ x) f with
    | none => simp [hb] at ha
    | some u =>
      simp [hb] at ha
      obtain ⟨rfl, rfl⟩ := ha
      obtain ⟨u', h1, h2⟩ := sim_fieldAddr (w := w) hb (hρ x (by simp))
      exact val (s := Instr.fieldAt s (ρ' x) f) rfl h1 (.refl hr) h2 rfl
  case field s x f =>
    cases hb : afield P s (ρ x) f with
    | none => simp [hb] at ha
    | some u =>
      simp [hb] at ha
      obtain ⟨rfl, rfl⟩ := ha
      obtain ⟨u', h1, h2⟩ := sim_field (w := w) hb (hρ x (by simp))
      exact val (s := Instr.field s (ρ' x) f) rfl h1 (.refl hr) h2 rfl
  case indexAddr t x i =>
    cases hb : aindexAddr P t (ρ x) (ρ i) with
    | none => simp [hb] at ha
    | some u =>
      simp [hb] at ha
      obtain ⟨rfl, rfl⟩ := ha
      obtain ⟨u', h1, h2⟩ := sim_indexAddr (w := w) hb (hρ x (by simp)) (hρ i (by simp))
      exact val (s := Instr.indexAt t (ρ' x) (ρ' i)) rfl h1 (.refl hr) h2 rfl
  case index t x i =>
    cases hb : aindex P t (ρ x) (ρ i) with
    | none => simp [hb] at ha
    | some u =>
      simp [hb] at ha
      obtain ⟨rfl, rfl⟩ := ha
      obtain ⟨u', h1, h2⟩ := sim_index (w := w) hb (hρ x (by simp)) (hρ i (by simp))
      exact val (s := Instr.index t (ρ' x) (ρ' i)) rfl h1 (.refl hr) h2 rfl
  case lookup t m i ok =>
    cases hb : alookupK P h t (ρ m) (ρ i) ok with
    | none => simp [hb] at ha
    | some u =>
      simp [hb] at ha
      obtain ⟨rfl, rfl⟩ := ha
      obtain ⟨u', h1, h2⟩ := sim_lookupK (w := w) hr hb (hρ m (by simp)) (hρ i (by simp))
      exact val (s := Instr.lookup t (ρ' m) (ρ' i) ok) rfl h1 (.refl hr) h2 rfl
  case mapUpdate t m k x =>
    cases hb : amapUpdateK P h t (ρ m) (ρ k) (ρ x) with
    | none => simp [hb] at ha
    | some u =>
      simp [hb] at ha
      obtain ⟨rfl, rfl⟩ := ha
      obtain ⟨w', h1, h2⟩ := sim_mapUpdateK (P := P) hr hb (hρ m (by simp)) (hρ k (by simp)) (hρ x (by simp))
      refine ⟨ι, w', undef, .inr ⟨?_, rfl⟩, h2, .undef⟩
      simp only [execOp]; simp [h1]
  case extract x i =>
    split at ha
    · rename_i vs hp
      cases hb : vs[i]? with
      | none => simp [hb] at ha
      | some u =>
        simp [hb] at ha
        obtain ⟨rfl, rfl⟩ := ha
        have hx := hρ x (by simp)
        rw [hp] at hx
        obtain ⟨vs', hx', hvs⟩ := hx.tuple_inv
        obtain ⟨u', h1, h2⟩ := hvs.getElem? hb
        refine val (s := Instr.extract (ρ' x) i) rfl (u' := u') ?_ (.refl hr) h2 rfl
        rw [hx']; simp [Instr.extract, h1]
    · cases ha
  case call c =>
    obtain ⟨callee, args, ats⟩ := c
    cases callee with
    | value f => simp at ha
    | invoke r m => simp at ha
    | builtin b =>
      simp only at ha
      have hargs : VRA ι (args.map ρ) (args.map ρ') := .map fun x hx => hρ x (by simp [Call.operands, hx])
      have hl := VRA_iff.1 hargs
      -- one argument, two
      have one : ∀ {x : Value}, (args.map ρ).toList = [x] → ∃ x', args.map ρ' = #[x'] ∧ VR ι x x' := by
        intro x hx
        rw [hx] at hl
        obtain ⟨x', r, h1, h2, h3⟩ := hl.cons_inv
        rw [h3.nil_inv] at h1
        exact ⟨x', Array.toList_inj.1 (by simpa using h1), h2⟩
      have two : ∀ {x y : Value}, (args.map ρ).toList = [x, y] → ∃ x' y', args.map ρ' = #[x', y'] ∧ VR ι x x' ∧ VR ι y y' := by
        intro x y hx
        rw [hx] at hl
        obtain ⟨x', r, h1, h2, h3⟩ := hl.cons_inv
        obtain ⟨y', r', h4, h5, h6⟩ := h3.cons_inv
        rw [h6.nil_inv] at h4
        rw [h4] at h1
        exact ⟨x', y', Array.toList_inj.1 (by simpa using h1), h2, h5⟩
      have bval : ∀ {s : Sem Value} {u' : Value} {ι₁ : PMap} {w₁ : World}, builtin b ats ty (args.map fun | .const _ => true | _ => false) (args.map ρ') = (do pure (.value (← s))) → s.run P w = .ok u' w₁ → Step ι h w ι₁ h' w₁ → VR ι₁ v u' →
          ∃ ι' w' v', Yield P ((execOp ρ' ⟨dst, .call ⟨.builtin b, args, ats⟩, ty, pos, after, guard⟩).run P w) v' w' ∧ Step ι h w ι' h' w' ∧ VR ι' v v' := by
        intro s u' ι₁ w₁ he hs hst hv
        refine ⟨ι₁, w₁, u', .inl ?_, hst, hv⟩
        have : execOp ρ' ⟨dst, .call ⟨.builtin b, args, ats⟩, ty, pos, after, guard⟩ = builtin b ats ty (args.map fun | .const _ => true | _ => false) (args.map ρ') := rfl
        rw [this, he]; simp [hs]
      unfold abuiltin at ha
      split at ha
      · rename_i x hx
        obtain ⟨x', e1, e2⟩ := one hx
        cases hb : alenB P h ats x with
        | none => simp [hb] at ha
        | some u =>
          simp [hb] at ha
          obtain ⟨rfl, rfl⟩ := ha
          obtain ⟨h1, h2⟩ := sim_len (w := w) (ty := ty) hr hb e2
          exact bval (s := Builtin.len_ ats ty #[x']) (by rw [e1]; rfl) h1 (.refl hr) h2
      · rename_i x hx
        obtain ⟨x', e1, e2⟩ := one hx
        cases hb : acapB P ats x with
        | none => simp [hb] at ha
        | some u =>
          simp [hb] at ha
          obtain ⟨rfl, rfl⟩ := ha
          obtain ⟨h1, h2⟩ := sim_cap (w := w) (ty := ty) hb e2
          exact bval (s := Builtin.cap_ ats ty #[x']) (by rw [e1]; rfl) h1 (.refl hr) h2
      · rename_i s x hx
        obtain ⟨s', x', e1, e2, e3⟩ := two hx
        obtain ⟨ι', w', u', h1, h2, h3⟩ := sim_append (ty := ty) hr ha e2 e3 hf
        exact bval (s := Builtin.append_ ats ty #[s', x']) (by rw [e1]; rfl) h1 h2 h3
      · rename_i d s hx
        obtain ⟨d', s', e1, e2, e3⟩ := two hx
        obtain ⟨w', u', h1, h2, h3⟩ := sim_copy (ty := ty) hr ha e2 e3
        exact bval (s := Builtin.copy_ ats ty #[d', s']) (by rw [e1]; rfl) h1 h2 h3
      · rename_i x hx
        obtain ⟨x', e1, e2⟩ := one hx
        obtain ⟨w', u', h1, h2, h3⟩ := sim_clear (ty := ty) hr ha e2
        exact bval (s := Builtin.clear_ ats ty #[x']) (by rw [e1]; rfl) h1 h2 h3
      · rename_i m k hx
        obtain ⟨m', k', e1, e2, e3⟩ := two hx
        obtain ⟨w', u', h1, h2, h3⟩ := sim_delete (ty := ty) hr ha e2 e3
        exact bval (s := Builtin.delete_ ats ty #[m', k']) (by rw [e1]; rfl) h1 h2 h3
      · cases hb : aminmax false (args.map ρ).toList with
        | none => rw [hb] at ha; cases ha
        | some u =>
          rw [hb] at ha
          simp only [Option.map_some, Option.some.injEq, Prod.mk.injEq] at ha
          obtain ⟨rfl, rfl⟩ := ha
          obtain ⟨h1, h2⟩ := sim_aminmax (P := P) (w := w) (ats := ats) (ty := ty) hb hargs
          exact bval (s := Builtin.min_ ats ty (args.map ρ')) rfl (by simpa using h1) (.refl hr) h2
      · cases hb : aminmax true (args.map ρ).toList with
        | none => rw [hb] at ha; cases ha
        | some u =>
          rw [hb] at ha
          simp only [Option.map_some, Option.some.injEq, Prod.mk.injEq] at ha
          obtain ⟨rfl, rfl⟩ := ha
          obtain ⟨h1, h2⟩ := sim_aminmax (P := P) (w := w) (ats := ats) (ty := ty) hb hargs
          exact bval (s := Builtin.max_ ats ty (args.map ρ')) rfl (by simpa using h1) (.refl hr) h2
      · cases ha
  all_goals (first | cases ha | simp at ha)

end
end Go.AM
