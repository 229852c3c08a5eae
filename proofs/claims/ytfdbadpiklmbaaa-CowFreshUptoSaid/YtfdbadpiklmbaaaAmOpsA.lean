/- AM: the operations of slots alone, and those that read: what the abstract machine yields, the model yields. -/
import Derived.Test.YtfdbadpiklmbaaaAmCells
import Derived.Laws.StructEq
set_option linter.unusedSimpArgs false
set_option linter.unusedVariables false
set_option linter.unnecessarySimpa false
set_option maxRecDepth 100000
namespace Go.AM
section
variable {P : Program} {ι : PMap} {w : World}

theorem toList_extract (cs : Array Value) (a n : Nat) : (cs.extract a (a + n)).toList = (cs.toList.drop a).take n := by
  rw [Array.toList_extract, List.extract_eq_take_drop]; simp

theorem sim_part {t : TypeId} {off : Nat} {cs cs' : Array Value} {v : Value} (h : apart P t off cs = some v) (hc : VRA ι cs cs') :
    ∃ v', (part t cs' off).run P w = .ok v' w ∧ VR ι v v' := by
  unfold apart at h
  cases ha : aggT P t with
  | none => simp [ha] at h
  | some b =>
    cases b with
    | true =>
      simp only [ha] at h
      split at h
      · rename_i hi
        cases h
        refine ⟨.agg (cs'.extract off (off + P.cellsOf t)), by simp [part, run_agg ha, run_size' hi], .of_agg ?_⟩
        rw [VRA_iff, toList_extract, toList_extract]
        exact ((VRA_iff.1 hc).drop off).take _
      · cases h
    | false =>
      simp only [ha] at h
      obtain ⟨v', h1, h2⟩ := hc.getElem? h
      exact ⟨v', by simp [part, run_agg ha, h1], h2⟩

theorem sim_load {t : TypeId} {h : AHeap} {id off : Nat} {v : Value} (hl : aload P t h id off = some v) {pl : Place} (ho : ORel ι w pl (h.get id)) :
    ∃ v', (loadVar t ⟨pl.b, pl.base + off, none⟩).run P w = .ok v' w ∧ VR ι v v' := by
  unfold aload at hl
  cases hg : h.get id with
  | dead => simp [hg] at hl
  | map es c => simp [hg] at hl
  | cells c md =>
    rw [hg] at ho
    simp only [hg] at hl
    cases ha : aggT P t with
    | none => simp [ha] at hl
    | some b =>
      cases b with
      | true =>
        simp only [ha] at hl
        split at hl
        · rename_i hle
          cases hl
          obtain ⟨l, h1, h2⟩ := run_cells (P := P) ho off (P.cellsOf t) hle
          refine ⟨.agg l.toArray, by simp [loadVar, run_agg ha, run_size' (info_of_agg ha), h1], .of_agg (.toArray h2)⟩
        · cases hl
      | false =>
        simp only [ha] at hl
        obtain ⟨u, h1, h2⟩ := ho.cell hl
        exact ⟨u, by simp [loadVar, run_agg ha, h1], h2⟩

theorem wrap_bits (k : IntKind) (r : BitVec k.bits) (w : World) : (do pure (.int k (k.wrap r.toNat)) : Sem Value).run P w = .ok (.int k (k.wrap r.toNat)) w := rfl

theorem sim_int {op : BinOp} {k : IntKind} {a b : Int} {v : Value} (h : aint op k a b = some v) (hs : op ≠ .shl ∧ op ≠ .shr) (t : TypeId) :
    (binOp op t (.int k a) (.int k b)).run P w = .ok v w ∧ VR ι v v := by
  cases op <;> simp only [aint] at h <;> simp only [binOp, if_neg (show ¬ (k ≠ k) from fun h => h rfl)]
  case shl => exact absurd rfl hs.1
  case shr => exact absurd rfl hs.2
  case quo =>
    split at h
    · cases h
    · rename_i hb; cases h; simp [Op.intDiv, hb]; exact .int _ _
  case rem =>
    split at h
    · cases h
    · rename_i hb; cases h; simp [Op.intDiv, hb]; exact .int _ _
  all_goals (cases h; simp [Op.intArith, Op.intBits, Op.intCmp]; first | exact .int _ _ | exact .bool _)

theorem sim_shift {op : BinOp} {k k' : IntKind} {a b : Int} {v : Value} (hop : op = .shl ∨ op = .shr) (h : ashift op k a b = some v) (t : TypeId) :
    (binOp op t (.int k a) (.int k' b)).run P w = .ok v w ∧ VR ι v v := by
  unfold ashift at h
  split at h
  · cases h
  · rename_i hb
    rcases hop with rfl | rfl <;> cases h <;> simp [binOp, Op.shift, hb] <;> exact .int _ _

theorem sim_str {op : BinOp} {a b : ByteArray} {v : Value} (h : astr op a b = some v) (t : TypeId) :
    (binOp op t (.string a) (.string b)).run P w = .ok v w ∧ VR ι v v := by
  cases op <;> simp only [astr] at h
  case add =>
    split at h
    · cases h
    · rename_i hb; cases h; simp only [binOp, Op.stringOp, if_neg hb]; exact ⟨rfl, .string _⟩
  case eql => cases h; simp only [binOp, Op.stringOp, ← ByteArray.toList_eq]; exact ⟨rfl, .bool _⟩
  case neq => cases h; simp only [binOp, Op.stringOp, ← ByteArray.toList_eq]; exact ⟨rfl, .bool _⟩
  all_goals cases h

theorem sim_aeqFields {d m : Nat} {h : AHeap} (ih : ∀ (t : TypeId) (x y x' y' : Value) (r : Bool), aeq P h d t x y = some r → VR ι x x' → VR ι y y' → (Op.equalIn (d + m) t x' y').run P w = .ok r w)
    {xs ys xs' ys' : Array Value} (hx : VRA ι xs xs') (hy : VRA ι ys ys') : ∀ (fs : List Field) (r : Bool), aeqFields (aeq P h d) (apart P) xs ys fs = some r → (Op.eqFields (d + m) xs' ys' fs).run P w = .ok r w := by
  intro fs
  induction fs with
  | nil => intro r h; simp [aeqFields] at h; subst h; rfl
  | cons f fs ihf =>
    intro r h
    unfold aeqFields at h
    unfold Op.eqFields
    split
    · rename_i hn
      rw [if_pos hn] at h
      split at h
      · rename_i a b ha hb
        obtain ⟨a', ra, va⟩ := sim_part (w := w) ha hx
        obtain ⟨b', rb, vb⟩ := sim_part (w := w) hb hy
        simp only [Sem.run_bind, ra, rb, Result.andThen_ok]
        split at h
        · rename_i he
          rw [ih _ _ _ _ _ _ he va vb]
          simpa using ihf r h
        · rename_i he
          cases h
          rw [ih _ _ _ _ _ _ he va vb]
          simp
        · cases h
      · cases h
    · rename_i hn
      rw [if_neg hn] at h
      exact ihf r h

theorem stringish_no {b o : Nat} {cs : Array Value} {e : TypeId} (hb : w.heap[b]? = some (.cells cs e (0, 0))) : (stringish ⟨b, o, none⟩).run P w = .ok false w := by
  simp [stringish, World.frozen?, World.shape?, hb]

theorem sim_sameAddr {h : AHeap} (hr : HR ι h w) {a b a' b' : Addr} {pa pb : Place} (ha : ι a.block = some pa) (hb : ι b.block = some pb) (hne : a.block ≠ b.block) {c1 c2 : List Value}
    (h1 : h.get a.block = .cells c1 .rw) (h2 : h.get b.block = .cells c2 .rw) (ea : a' = ⟨pa.b, pa.base + a.off, none⟩) (eb : b' = ⟨pb.b, pb.base + b.off, none⟩) :
    (sameAddr a' b').run P w = .ok false w := by
  subst ea eb
  have hx := hr.ex _ _ _ _ ha hb hne (by rw [h1]; rfl) (by rw [h2]; rfl)
  have o1 := hr.obj _ _ ha
  have o2 := hr.obj _ _ hb
  rw [h1] at o1
  rw [h2] at o2
  obtain ⟨z1, cs1, e1, b1, _⟩ := o1
  obtain ⟨z2, cs2, e2, b2, _⟩ := o2
  have hbe : (pa.b == pb.b) = false := by simpa using hx
  simp only [sameAddr, hbe, Bool.false_eq_true, if_false, Sem.run_bind, run_frozen, Result.andThen_ok]
  have f1 : w.frozen? ⟨pa.b, pa.base + a.off, none⟩ = false := by simp [World.frozen?, b1]
  have f2 : w.frozen? ⟨pb.b, pb.base + b.off, none⟩ = false := by simp [World.frozen?, b2]
  have n1 : (noView ⟨pa.b, pa.base + a.off, none⟩).run P w = .ok () w := by simp [noView, viewAt, World.shape?, b1]
  have n2 : (noView ⟨pb.b, pb.base + b.off, none⟩).run P w = .ok () w := by simp [noView, viewAt, World.shape?, b2]
  have m : (mayBeOne ⟨pa.b, pa.base + a.off, none⟩ ⟨pb.b, pb.base + b.off, none⟩).run P w = .ok false w := by
    simp [mayBeOne, stringish_no b1, stringish_no b2]
  simp [f1, n1, n2, m]

theorem sim_aeq {h : AHeap} (hr : HR ι h w) (m : Nat) : ∀ (d : Nat) (t : TypeId) (x y x' y' : Value) (r : Bool), aeq P h d t x y = some r → VR ι x x' → VR ι y y' → (Op.equalIn (d + m) t x' y').run P w = .ok r w := by
  intro d
  induction d with
  | zero => intro t x y x' y' r h; simp [aeq] at h
  | succ d ih =>
    intro t x y x' y' r h hx hy
    have hd : d + 1 + m = (d + m) + 1 := by omega
    rw [hd]
    unfold aeq at h
    split at h
    · -- bool
      rename_i ht
      rw [hx.bool_inv, hy.bool_inv]; cases h
      (simp only [Op.equalIn, Sem.run_bind, run_und ht, Result.andThen_ok]; rfl)
    · rename_i ht
      rw [hx.int_inv, hy.int_inv]
      split at h
      · rename_i hk; cases h; (simp only [Op.equalIn, Sem.run_bind, run_und ht, Result.andThen_ok, if_pos hk]; rfl)
      · cases h
    · rename_i ht
      rw [hx.string_inv, hy.string_inv]; cases h
      (simp only [Op.equalIn, Sem.run_bind, run_und ht, Result.andThen_ok]; rfl)
    · rename_i b ht
      cases hx
      cases h
      cases hy with
      | ptrNil => (simp only [Op.equalIn, Sem.run_bind, run_und ht, Result.andThen_ok]; rfl)
      | ptr off hi => (simp only [Op.equalIn, Sem.run_bind, run_und ht, Result.andThen_ok]; rfl)
    · rename_i ht
      obtain ⟨pl, _, _, rfl⟩ := hx.ptr_inv
      cases hy
      cases h
      (simp only [Op.equalIn, Sem.run_bind, run_und ht, Result.andThen_ok]; rfl)
    · rename_i e a b ht
      obtain ⟨pa, ia, sa, rfl⟩ := hx.ptr_inv
      obtain ⟨pb, ib, sb, rfl⟩ := hy.ptr_inv
      split at h
      · cases h
      · rename_i hc
        simp only [not_or] at hc
        have hsz : (P.info? e).isSome = true := by
          cases hq : (P.info? e).isSome
          · exact absurd hq hc.2.1
          · rfl
        simp only [Op.equalIn, Sem.run_bind, run_und ht, Result.andThen_ok, run_size' hsz]
        rw [if_pos hc.1]
        split at h
        · rename_i hbl
          cases h
          rw [hbl] at ia
          rw [ia] at ib
          cases ib
          simp only [sameAddr, beq_self_eq_true, if_true]
          have : ((⟨pa.b, pa.base + a.off, none⟩ : Addr) == ⟨pa.b, pa.base + b.off, none⟩) = decide (a.off = b.off) := by
            rw [Bool.eq_iff_iff]; simp
          rw [this]; rfl
        · rename_i hbl
          split at h
          · rename_i c1 c2 h1 h2
            cases h
            exact sim_sameAddr hr ia ib hbl h1 h2 rfl rfl
          · cases h
    · rename_i fs xs ys ht
      obtain ⟨xs', rfl, vx⟩ := hx.agg_inv
      obtain ⟨ys', rfl, vy⟩ := hy.agg_inv
      split at h
      · cases h
      · rename_i hs
        have hf : P.fieldsOf t = fs := by simp [Program.fieldsOf, ht]
        rw [run_equalIn_struct w _ t xs' ys' (by rw [hf]; exact ht) (by simpa using hs), hf]
        exact sim_aeqFields ih vx vy _ _ h
    · rename_i ht
      cases hx
      cases h
      cases hy <;> (simp only [Op.equalIn, Sem.run_bind, run_und ht, Result.andThen_ok]; rfl)
    · rename_i ht
      cases hy
      cases h
      cases hx <;> (simp only [Op.equalIn, Sem.run_bind, run_und ht, Result.andThen_ok]; rfl)
    · rename_i ht
      cases hx
      cases h
      cases hy <;> (simp only [Op.equalIn, Sem.run_bind, run_und ht, Result.andThen_ok]; rfl)
    · rename_i ht
      obtain ⟨pl, _, rfl⟩ := hx.map_inv
      cases hy
      cases h
      (simp only [Op.equalIn, Sem.run_bind, run_und ht, Result.andThen_ok]; rfl)
    · rename_i ht
      cases hx; cases hy; cases h
      (simp only [Op.equalIn, Sem.run_bind, run_und ht, Result.andThen_ok]; rfl)
    · rename_i ht
      cases hx; cases h
      obtain ⟨f', c', rfl, _, _⟩ := hy.func_inv
      (simp only [Op.equalIn, Sem.run_bind, run_und ht, Result.andThen_ok]; rfl)
    · rename_i ht
      cases hy; cases h
      obtain ⟨f', c', rfl, _, _⟩ := hx.func_inv
      (simp only [Op.equalIn, Sem.run_bind, run_und ht, Result.andThen_ok]; rfl)
    · cases h

theorem sim_aequal {h : AHeap} (hr : HR ι h w) {t : TypeId} {x y x' y' : Value} {r : Bool} (ha : aequal P h t x y = some r) (hx : VR ι x x') (hy : VR ι y y') :
    (Op.equal t x' y').run P w = .ok r w ∧ ∀ op a b, (eqGuard op t a b x' y').run P w = .ok () w := by
  have main : ∀ {x y : Value}, aeq P h 9 t x y = some r → VR ι x x' → VR ι y y' → (Op.equal t x' y').run P w = .ok r w := fun h1 h2 h3 => by
    have := sim_aeq hr 9991 9 t _ _ _ _ r h1 h2 h3
    rw [show 9 + 9991 = Op.maxDepth from rfl] at this
    exact this
  have g0 : ∀ op a b, (∀ p q, ¬ (x' = .agg p ∧ y' = .agg q)) → ¬ (x' = .nilIface ∧ y' = .nilIface) → (eqGuard op t a b x' y').run P w = .ok () w := by
    intro op a b h1 h2
    cases hx' : x' with
    | nilIface =>
      cases hy' : y' with
      | nilIface => exact absurd ⟨hx', hy'⟩ h2
      | _ => cases op <;> rfl
    | agg p =>
      cases hy' : y' with
      | agg q => exact absurd ⟨hx', hy'⟩ (h1 _ _)
      | _ => cases op <;> rfl
    | _ => cases op <;> rfl
  unfold aequal at ha
  split at ha
  · rename_i xs ys
    split at ha
    · cases ha
    · rename_i hg
      refine ⟨main ha hx hy, fun op a b => ?_⟩
      obtain ⟨xs', rfl, _⟩ := hx.agg_inv
      obtain ⟨ys', rfl, _⟩ := hy.agg_inv
      unfold eqGuard
      cases op <;> simp [hg]
  · cases ha
  · rename_i hn1 hn2
    refine ⟨main ha hx hy, fun op a b => g0 op a b ?_ ?_⟩
    · rintro p q ⟨rfl, rfl⟩
      cases hx; cases hy
      exact hn1 _ _ rfl rfl
    · rintro ⟨rfl, rfl⟩
      cases hx; cases hy
      exact hn2 rfl rfl

end
end Go.AM
